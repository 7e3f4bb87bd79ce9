import Derived.Test.YtmbkpfkkohpnkaaSw
set_option linter.unusedVariables false
set_option linter.unusedSimpArgs false
namespace Go.Proofs.Ytmbkpfkkohpnkaa
open Go Go.RowKit

/-! ### A region that draws its order, in phases; a slice of a slice may come first, too -/
section
variable {P : Program} {ops : Array Oper} {Q : Exit → Act → World → Prop} {md : Region.Mode} {S : World → Prop} {kp : Nat → Bool}

def pureS : Op → Bool
  | .slice _ _ _ _ _ => true
  | o => pureKind o

theorem pureS_value {o : Oper} {ρ : Operand → Value} {w w' : World} {n : Next} (hk : pureS o.op = true) (h : (execOp ρ o).run P w = .ok n w') : ∃ v, n = .value v := by
  by_cases hs : ∃ a b c d e, o.op = .slice a b c d e
  · obtain ⟨a, b, c, d, e, hs⟩ := hs
    unfold execOp at h
    rw [hs] at h
    exact run_value h
  · refine pure_value (P := P) (o := o) ?_ h
    cases hop : o.op <;> rw [hop] at hk <;> first | exact hk | (exfalso; exact hs ⟨_, _, _, _, _, hop⟩)

/-- These may come first, one behind the other. -/
def frontPickS (md : Region.Mode) (ops : Array Oper) (kp : Nat → Bool) : List Nat → Array Bool → Bool
  | [], _ => true
  | i :: is, listed => (match ops[i]? with | some o => pureS o.op | none => false) && ((Region.ready md ops listed).contains i && (Region.free md ops listed i && (frontB md ops kp i && frontPickS md ops kp is (listed.setIfInBounds i true))))

theorem wpAnyF_pickS (hs : Region.noSelect ops = true) (hQ : ∀ c a d v w, Q (.panic c) (a.put d v) w → Q (.panic c) a w) (m : Nat) : ∀ (is : List Nat) (listed : Array Bool) (a : Act) (w : World),
    frontPickS md ops kp is listed = true → S w →
    wpQuiet P ops (fun w' => ∃ x : Meets S, w' = x.val) (fun a' => wpAnyF P md ops Q S kp m (listAll is listed) a' w) (pick ops.toList is) a → wpAnyF P md ops Q S kp (is.length + m) listed a w
  | [], listed, a, w, _, _, h => by simpa [pick, wpQuiet, listAll] using h
  | i :: is, listed, a, w, hB, hS, h => by
    cases h0 : ops[i]? with
    | none => simp [frontPickS, h0] at hB
    | some o =>
      have hp : pick ops.toList (i :: is) = o :: pick ops.toList is := by
        unfold pick
        rw [List.filterMap_cons]
        simp [h0]
      simp only [frontPickS, h0, Bool.and_eq_true] at hB
      obtain ⟨hpk, hr, hf, hk, hB'⟩ := hB
      rw [hp] at h
      have hq : qOp P ops (fun w' => ∃ x : Meets S, w' = x.val) i (wpQuiet P ops (fun w' => ∃ x : Meets S, w' = x.val) (fun a' => wpAnyF P md ops Q S kp m (listAll (i :: is) listed) a' w) (pick ops.toList is)) a := by
        unfold qOp; simp only [h0]; exact h
      obtain ⟨v, hy, hK⟩ := yieldsIn_of_qOp h0 hq
      have hy' : YieldsIf P ops S o v a := by
        rcases hy with ⟨hw, hv⟩ | hy
        · exact .inl ⟨hw, fun w' hS' => quiet_value (fun n w1 h1 => pureS_value hpk h1) (hv w' ⟨⟨w', hS'⟩, rfl⟩)⟩
        · exact .inr hy
      rw [show (i :: is).length + m = (is.length + m) + 1 from by simp only [List.length_cons]; omega]
      exact wpAnyF_take h0 hs hf hr hk (fun c a w => hQ c a _ _ w) hy' hS (wpAnyF_pickS hs hQ m is _ _ w hB' hS hK)

/-- The phases. -/
def wpPhS (P : Program) (ops : Array Oper) (Q : Exit → Act → World → Prop) (S : World → Prop) (kp : Nat → Bool) : List (List Nat × List Nat) → Act → World → Prop
  | [], a, w => Q .normal a w
  | (fs, rs) :: r, a, w => S w ∧ wpQuiet P ops (fun w' => ∃ x : Meets S, w' = x.val) (fun a' => wpSeqK P ops Q S kp (wpPhS P ops Q S kp r) (pickN ops.toList rs) a' w) (pick ops.toList fs) a

def phSB (md : Region.Mode) (ops : Array Oper) (kp : Nat → Bool) : List (List Nat × List Nat) → Array Bool → Bool
  | [], listed => (Region.ready md ops listed).isEmpty
  | (fs, rs) :: r, listed => frontPickS md ops kp fs listed && (seqKB md ops rs (listAll fs listed) && ((rs.all fun i => decide (i < ops.size)) && phSB md ops kp r (listAll rs (listAll fs listed))))

def phSLen : List (List Nat × List Nat) → Nat
  | [] => 0
  | (fs, rs) :: r => fs.length + (rs.length + phSLen r)

theorem wpAnyF_phS (hs : Region.noSelect ops = true) (hQ : ∀ c a d v w, Q (.panic c) (a.put d v) w → Q (.panic c) a w) : ∀ (l : List (List Nat × List Nat)) (listed : Array Bool) (a : Act) (w : World), phSB md ops kp l listed = true →
    wpPhS P ops Q S kp l a w → wpAnyF P md ops Q S kp (phSLen l) listed a w
  | [], listed, a, w, hB, h => ⟨by simpa [phSB] using hB, h⟩
  | (fs, rs) :: r, listed, a, w, hB, h => by
    simp only [phSB, Bool.and_eq_true] at hB
    obtain ⟨h1, h2, h3, h4⟩ := hB
    obtain ⟨hS, hq⟩ := h
    refine wpAnyF_pickS hs hQ (rs.length + phSLen r) fs listed a w h1 hS (wpQuiet_mono (fun a' h' => ?_) _ _ hq)
    refine wpAnyF_of_seqK rs _ a' w (fun i hi => by have := List.all_eq_true.1 h3 i hi; simpa using this) h2 ?_
    exact wpSeqK_mono (fun a w h => wpAnyF_phS hs hQ r _ a w h4 h) _ _ _ h'

/-- **A region that draws its order, in phases.** -/
theorem wp_region_phS {id : Nat} {a : Act} {w : World} {l : List Oper} (ph : List (List Nat × List Nat)) (kp : Nat → Bool) (S : World → Prop) (hm : P.follows .mixedOrders = true)
    (hB : (Region.noSelect l.toArray && (phSB .any l.toArray kp ph (Array.replicate l.toArray.size false) && decide (phSLen ph = l.length))) = true)
    (hQ : ∀ c a d v w, Q (.panic c) (a.put d v) w → Q (.panic c) a w)
    (h : wpPhS P l.toArray Q S kp ph a w.drew) : (Code.region id l.toArray true).wp P Q a w := by
  simp only [Bool.and_eq_true, decide_eq_true_eq] at hB
  obtain ⟨h1, h2, h3⟩ := hB
  refine wp_region_front kp S hm ?_
  have := wpAnyF_phS (P := P) (Q := Q) (S := S) h1 hQ ph (Array.replicate l.toArray.size false) a w.drew h2 h
  rw [h3] at this
  simpa using this

theorem wpPhS_nil {a : Act} {w : World} (h : Q .normal a w) : wpPhS P ops Q S kp [] a w := h
theorem wpPhS_cons {fs rs : List Nat} {r : List (List Nat × List Nat)} {a : Act} {w : World} (hS : S w)
    (h : Nonempty (Meets S) → wpQuiet P ops (fun w' => ∃ x : Meets S, w' = x.val) (fun a' => wpSeqK P ops Q S kp (wpPhS P ops Q S kp r) (pickN ops.toList rs) a' w) (pick ops.toList fs) a) : wpPhS P ops Q S kp ((fs, rs) :: r) a w :=
  ⟨hS, h ⟨⟨w, hS⟩⟩⟩
end
end Go.Proofs.Ytmbkpfkkohpnkaa
