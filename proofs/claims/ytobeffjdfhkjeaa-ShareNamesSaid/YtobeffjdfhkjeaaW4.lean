import Derived.Test.YtobeffjdfhkjeaaW3
set_option linter.unusedVariables false
set_option linter.unusedSimpArgs false
namespace Go.Proofs.Ytobeffjdfhkjeaa
open Go Go.RowKit

/-- The operations of these numbers. -/
def pick (l : List Oper) (is : List Nat) : List Oper := is.filterMap (l[·]?)

section
variable {P : Program} {ops : Array Oper} {Q : Exit → Act → World → Prop} {md : Region.Mode} {S : World → Prop} {kp : Nat → Bool}

theorem wpQuiet_mono {C : World → Prop} {K K' : Act → Prop} (h : ∀ a, K a → K' a) : ∀ (l : List Oper) (a : Act), wpQuiet P ops C K l a → wpQuiet P ops C K' l a
  | [], a, hk => h a hk
  | o :: l, a, hk => by
    unfold wpQuiet at *
    split
    · rename_i hw
      rw [if_pos hw] at hk
      exact Oper.quiet_mono (fun a => wpQuiet_mono h l a) hk
    · rename_i hw
      rw [if_neg hw] at hk
      exact wpQuiet_mono h l _ hk

/-- These may come first, one behind the other. -/
def frontPickB (md : Region.Mode) (ops : Array Oper) (kp : Nat → Bool) : List Nat → Array Bool → Bool
  | [], _ => true
  | i :: is, listed => (match ops[i]? with | some o => pureKind o.op | none => false) && ((Region.ready md ops listed).contains i && (Region.free md ops listed i && (frontB md ops kp i && frontPickB md ops kp is (listed.setIfInBounds i true))))

def listAll (is : List Nat) (listed : Array Bool) : Array Bool := is.foldl (fun l i => l.setIfInBounds i true) listed

theorem wpAnyF_pick (hs : Region.noSelect ops = true) (hQ : ∀ c a d v w, Q (.panic c) (a.put d v) w → Q (.panic c) a w) (m : Nat) : ∀ (is : List Nat) (listed : Array Bool) (a : Act) (w : World),
    frontPickB md ops kp is listed = true → S w →
    wpQuiet P ops (fun w' => ∃ x : Meets S, w' = x.val) (fun a' => wpAnyF P md ops Q S kp m (listAll is listed) a' w) (pick ops.toList is) a → wpAnyF P md ops Q S kp (is.length + m) listed a w
  | [], listed, a, w, _, _, h => by simpa [pick, wpQuiet, listAll] using h
  | i :: is, listed, a, w, hB, hS, h => by
    cases h0 : ops[i]? with
    | none => simp [frontPickB, h0] at hB
    | some o =>
      have hp : pick ops.toList (i :: is) = o :: pick ops.toList is := by
        unfold pick
        rw [List.filterMap_cons]
        simp [h0]
      simp only [frontPickB, h0, Bool.and_eq_true] at hB
      obtain ⟨hpk, hr, hf, hk, hB'⟩ := hB
      rw [hp] at h
      have hq : qOp P ops (fun w' => ∃ x : Meets S, w' = x.val) i (wpQuiet P ops (fun w' => ∃ x : Meets S, w' = x.val) (fun a' => wpAnyF P md ops Q S kp m (listAll (i :: is) listed) a' w) (pick ops.toList is)) a := by
        unfold qOp; simp only [h0]; exact h
      obtain ⟨v, hy, hK⟩ := yieldsIn_of_qOp h0 hq
      have hy' : YieldsIf P ops S o v a := by
        rcases hy with ⟨hw, hv⟩ | hy
        · exact .inl ⟨hw, fun w' hS' => quiet_value (fun n w1 h1 => pure_value hpk h1) (hv w' ⟨⟨w', hS'⟩, rfl⟩)⟩
        · exact .inr hy
      rw [show (i :: is).length + m = (is.length + m) + 1 from by simp only [List.length_cons]; omega]
      exact wpAnyF_take h0 hs hf hr hk (fun c a w => hQ c a _ _ w) hy' hS (wpAnyF_pick hs hQ m is _ _ w hB' hS hK)

/-- The rest in the order of these numbers. -/
def seqPickB (md : Region.Mode) (ops : Array Oper) : List Nat → Array Bool → Bool
  | [], listed => (Region.ready md ops listed).isEmpty
  | i :: is, listed => decide (Region.ready md ops listed = [i]) && seqPickB md ops is (listed.setIfInBounds i true)

/-- The rest, S shown behind what kp names. -/
def wpSeqP (P : Program) (ops : Array Oper) (Q : Exit → Act → World → Prop) (S : World → Prop) (kp : Nat → Bool) : List (Nat × Oper) → Act → World → Prop
  | [], a, w => Q .normal a w
  | (i, o) :: rest, a, w => if Region.wanted o (yielded ops a.tmps) then o.wp P a w (fun a' w' => (kp i = true → S w') ∧ wpSeqP P ops Q S kp rest a' w') Q ∨ (o.asks P a w ∧ LetsOut Q)
    else (kp i = true → S w) ∧ wpSeqP P ops Q S kp rest (a.put o.dst undef) w

def pickN (l : List Oper) (is : List Nat) : List (Nat × Oper) := is.filterMap fun i => (l[i]?).map fun o => (i, o)

theorem wpAnyF_of_pick : ∀ (is : List Nat) (listed : Array Bool) (a : Act) (w : World), (∀ i ∈ is, i < ops.size) → seqPickB md ops is listed = true →
    wpSeqP P ops Q S kp (pickN ops.toList is) a w → wpAnyF P md ops Q S kp is.length listed a w
  | [], listed, a, w, _, hB, h => ⟨by simpa [seqPickB] using hB, by simpa [pickN, wpSeqP] using h⟩
  | k :: is, listed, a, w, hlt, hB, h => by
    have hk := hlt k (by simp)
    have h0 : ops[k]? = some ops[k] := Array.getElem?_eq_getElem hk
    have hp : pickN ops.toList (k :: is) = (k, ops[k]) :: pickN ops.toList is := by
      unfold pickN
      rw [List.filterMap_cons]
      simp [h0]
    rw [hp] at h
    simp only [seqPickB, Bool.and_eq_true, decide_eq_true_eq] at hB
    refine ⟨fun h1 => (by rw [hB.1] at h1; cases h1), fun j hj => ?_⟩
    rw [hB.1] at hj
    obtain rfl : j = k := by simpa using hj
    have hw : wpOp P ops Q j (fun a' w' => (kp j = true → S w') ∧ wpSeqP P ops Q S kp (pickN ops.toList is) a' w') a w := by
      unfold wpOp
      simp only [h0]
      unfold wpSeqP at h
      split
      · rename_i hw
        rw [if_pos hw] at h
        exact h
      · rename_i hw
        rw [if_neg hw] at h
        exact h
    exact wpOp_mono (fun a' w' h' => ⟨h'.1, wpAnyF_of_pick is _ a' w' (fun i hi => hlt i (by simp [hi])) hB.2 h'.2⟩) hw

theorem wpSeqP_nil {a : Act} {w : World} (h : Q .normal a w) : wpSeqP P ops Q S kp [] a w := h
theorem wpSeqP_step {i : Nat} {o : Oper} {rest : List (Nat × Oper)} {a : Act} {w : World}
    (h : ∀ K' : Act → World → Prop, Hid (∀ a w, (kp i = true → S w) → wpSeqP P ops Q S kp rest a w → K' a w) → if Region.wanted o (yielded ops a.tmps) = true then Oper.wp P o a w K' Q else K' (a.put o.dst undef) w) :
    wpSeqP P ops Q S kp ((i, o) :: rest) a w := by
  have := h (fun a' w' => (kp i = true → S w') ∧ wpSeqP P ops Q S kp rest a' w') (fun a w h1 h2 => ⟨h1, h2⟩)
  unfold wpSeqP
  split
  · rename_i hw; rw [if_pos hw] at this; exact .inl this
  · rename_i hw; rw [if_neg hw] at this; exact this

/-- **A region that draws its order: these operations first (they only read, in every world that meets S), then these, in an order that is forced.** -/
theorem wp_region_pick {id : Nat} {a : Act} {w : World} {l : List Oper} (fs rs : List Nat) (kp : Nat → Bool) (S : World → Prop) (hm : P.follows .mixedOrders = true)
    (hB : (Region.noSelect l.toArray && (frontPickB .any l.toArray kp fs (Array.replicate l.toArray.size false) && (seqPickB .any l.toArray rs (listAll fs (Array.replicate l.toArray.size false)) && (decide (fs.length + rs.length = l.length) && rs.all fun i => decide (i < l.length))))) = true)
    (hQ : ∀ c a d v w, Q (.panic c) (a.put d v) w → Q (.panic c) a w) (hS : S w.drew)
    (h : Nonempty (Meets S) → wpQuiet P l.toArray (fun w' => ∃ x : Meets S, w' = x.val) (fun a' => wpSeqP P l.toArray Q S kp (pickN l rs) a' w.drew) (pick l fs) a) : (Code.region id l.toArray true).wp P Q a w := by
  simp only [Bool.and_eq_true, decide_eq_true_eq] at hB
  obtain ⟨h1, h2, h3, h4, h5⟩ := hB
  refine wp_region_front kp S hm ?_
  have hq := h ⟨⟨w.drew, hS⟩⟩
  have := wpAnyF_pick (P := P) (ops := l.toArray) (Q := Q) (md := .any) (S := S) (kp := kp) h1 hQ rs.length fs (Array.replicate l.toArray.size false) a w.drew h2 hS (by
    refine wpQuiet_mono (fun a' h' => ?_) _ _ hq
    refine wpAnyF_of_pick rs _ a' w.drew (fun i hi => ?_) h3 h'
    have := List.all_eq_true.1 h5 i hi
    simpa using this)
  rw [h4] at this
  simpa using this
end
end Go.Proofs.Ytobeffjdfhkjeaa
