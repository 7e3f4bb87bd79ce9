import Derived.Test.YtobeffjdfhkjeaaW2
import Derived.Deep.RegionHeld3
import Derived.StillTail
import Derived.BigQuiet
import Derived.Deep.QuietTactic
set_option linter.unusedVariables false
set_option linter.unusedSimpArgs false
namespace Go.Proofs.Ytobeffjdfhkjeaa
open Go Go.RowKit

section
variable {P : Program} {ops : Array Oper} {Q : Exit → Act → World → Prop} {md : Region.Mode} {S : World → Prop} {kp : Nat → Bool}

/-- Whatever order is picked from here on; S holds behind every operation that kp names. -/
def wpAnyF (P : Program) (md : Region.Mode) (ops : Array Oper) (Q : Exit → Act → World → Prop) (S : World → Prop) (kp : Nat → Bool) : Nat → Array Bool → Act → World → Prop
  | 0, listed, a, w => Region.ready md ops listed = [] ∧ Q .normal a w
  | fuel + 1, listed, a, w =>
    (Region.ready md ops listed = [] → Q .normal a w) ∧
    ∀ i ∈ Region.ready md ops listed, wpOp P ops Q i (fun a' w' => (kp i = true → S w') ∧ wpAnyF P md ops Q S kp fuel (listed.setIfInBounds i true) a' w') a w

theorem wpAny_of_front : ∀ (fuel : Nat) (listed : Array Bool) (a : Act) (w : World), wpAnyF P md ops Q S kp fuel listed a w → wpAny P md ops Q fuel listed a w
  | 0, _, _, _, h => h
  | fuel + 1, _, _, _, h => ⟨h.1, fun i hi => wpOp_mono (fun a' w' h' => wpAny_of_front fuel _ a' w' h'.2) (h.2 i hi)⟩

/-- An operation that may come up now is taken first, if it yields its value in every world that meets S; what need not keep S waits for it. -/
theorem wpAnyF_first {i : Nat} {oi : Oper} {v : Value} (hi : ops[i]? = some oi) (hsel : ∀ (j : Nat) (o : Oper) cs b, ops[j]? = some o → o.op ≠ .select cs b)
    (hQ : ∀ c a w, Q (.panic c) (a.put oi.dst v) w → Q (.panic c) a w)
    (hwait : ∀ j oj, ops[j]? = some oj → j ≠ i → kp j = false → ∃ e ∈ oj.after, Region.binds md e = true ∧ e.on = i) :
    ∀ (fuel : Nat) (listed : Array Bool) (a : Act) (w : World),
      (∀ j oj, ops[j]? = some oj → j ≠ i → listed.getD j true = false → (∀ e ∈ oj.after, Region.binds md e = true → e.on ≠ i) → oi.apart ops oj = true) →
      i ∈ Region.ready md ops listed → YieldsIf P ops S oi v a → S w →
      wpAnyF P md ops Q S kp fuel (listed.setIfInBounds i true) (a.put oi.dst v) w → wpAnyF P md ops Q S kp (fuel + 1) listed a w := by
  intro fuel
  induction fuel with
  | zero =>
    intro listed a w _ hr hy hS H
    refine ⟨fun h => (by rw [h] at hr; cases hr), fun j hj => ?_⟩
    by_cases hji : j = i
    · subst hji; exact hy.wpOp hi hS ⟨fun _ => hS, H⟩
    · have := ready_mono hj hji
      rw [H.1] at this
      cases this
  | succ fuel ih =>
    intro listed a w hfree hr hy hS H
    refine ⟨fun h => (by rw [h] at hr; cases hr), fun j hj => ?_⟩
    by_cases hji : j = i
    · subst hji; exact hy.wpOp hi hS ⟨fun _ => hS, H⟩
    · have h1 := H.2 j (ready_mono hj hji)
      obtain ⟨hjun, oj, hoj, hall⟩ := mem_ready.1 hj
      have hnot : ∀ e ∈ oj.after, Region.binds md e = true → e.on ≠ i := fun e he hb heq => by
        have h1 := hall e he hb
        have h0 := (mem_ready.1 hr).1
        rw [heq] at h1
        rcases Nat.lt_or_ge i listed.size with h' | h'
        · simp [h'] at h0 h1; rw [h0] at h1; cases h1
        · simp [Array.getElem?_eq_none h'] at h1
      have hkp : kp j = true := by
        cases hk : kp j with
        | true => rfl
        | false =>
          obtain ⟨e, he, hb, ho⟩ := hwait j oj hoj hji hk
          exact absurd ho (hnot e he hb)
      have h2 := wpOp_putIf hoj (hfree j oj hoj hji hjun hnot) (fun cs b => hsel i oi cs b hi) (fun cs b => hsel j oj cs b hoj) hQ hy h1
      have hfree' : ∀ k ok, ops[k]? = some ok → k ≠ i → (listed.setIfInBounds j true).getD k true = false →
          (∀ e ∈ ok.after, Region.binds md e = true → e.on ≠ i) → oi.apart ops ok = true := fun k ok hk hki hun hno => by
        refine hfree k ok hk hki ?_ hno
        by_cases hjk : j = k
        · subst hjk; exact hjun
        · rw [getD_set_ne true hjk] at hun; exact hun
      refine wpOp_mono (fun a' w' h3 => ⟨h3.2.1, ih (listed.setIfInBounds j true) a' w' hfree' (ready_mono hr (Ne.symm hji)) h3.1 (h3.2.1 hkp) ?_⟩) h2
      rw [Array.setIfInBounds_comm _ _ hji]
      exact h3.2.2

/-- All that need not keep S wait for number i. -/
def frontB (md : Region.Mode) (ops : Array Oper) (kp : Nat → Bool) (i : Nat) : Bool := (List.range ops.size).all fun j => kp j || j == i || Region.waitsFor md ops j i

theorem wpAnyF_take {i : Nat} {oi : Oper} {v : Value} {fuel : Nat} {listed : Array Bool} {a : Act} {w : World} (hi : ops[i]? = some oi)
    (hs : Region.noSelect ops = true) (hf : Region.free md ops listed i = true) (hr : (Region.ready md ops listed).contains i = true) (hk : frontB md ops kp i = true)
    (hQ : ∀ c a w, Q (.panic c) (a.put oi.dst v) w → Q (.panic c) a w) (hy : YieldsIf P ops S oi v a) (hS : S w)
    (h : wpAnyF P md ops Q S kp fuel (listed.setIfInBounds i true) (a.put oi.dst v) w) : wpAnyF P md ops Q S kp (fuel + 1) listed a w := by
  refine wpAnyF_first hi (Region.noSelect_spec hs) hQ (fun j oj hj hji hkj => ?_) fuel listed a w (Region.free_spec hi hf) (by simpa using hr) hy hS h
  have h1 := List.all_eq_true.1 hk j (List.mem_range.2 (Array.getElem?_eq_some_iff.1 hj).1)
  simp only [hkj, Bool.false_or, Bool.or_eq_true, beq_iff_eq] at h1
  rcases h1 with h1 | h1
  · exact absurd h1 hji
  · obtain ⟨oj', hj', e, he⟩ := Region.waitsFor_spec h1
    rw [hj] at hj'
    cases hj'
    exact ⟨e, he⟩

theorem wpAnyF_one {i : Nat} {o : Oper} {fuel : Nat} {listed : Array Bool} {a : Act} {w : World} (hr : Region.ready md ops listed = [i]) (ho : ops[i]? = some o)
    (h : ∀ K' : Act → World → Prop, Hid (∀ a w, (kp i = true → S w) → wpAnyF P md ops Q S kp fuel (listed.setIfInBounds i true) a w → K' a w) → if Region.wanted o (yielded ops a.tmps) = true then Oper.wp P o a w K' Q else K' (a.put o.dst undef) w) :
    wpAnyF P md ops Q S kp (fuel + 1) listed a w := by
  refine ⟨fun h0 => (by rw [hr] at h0; cases h0), fun j hj => ?_⟩
  rw [hr] at hj
  obtain rfl : j = i := by simpa using hj
  exact wpOp_step ho fun K' hK => h K' fun a w hS hW => hK a w ⟨hS, hW⟩

theorem wpAnyF_done {listed : Array Bool} {a : Act} {w : World} (hr : Region.ready md ops listed = []) (h : Q .normal a w) : ∀ fuel, wpAnyF P md ops Q S kp fuel listed a w
  | 0 => ⟨hr, h⟩
  | _ + 1 => ⟨fun _ => h, by rw [hr]; simp⟩

theorem wp_region_front {id : Nat} {a : Act} {w : World} (kp : Nat → Bool) (S : World → Prop) (hm : P.follows .mixedOrders = true)
    (h : wpAnyF P .any ops Q S kp ops.size (Array.replicate ops.size false) a w.drew) : (Code.region id ops true).wp P Q a w :=
  wp_region_any hm (wpAny_of_front _ _ _ _ h)
end

/-! ### One walk: the front in the order of the text, then the rest in the order that is forced -/
/-- Operations that hand back a value and nothing else. -/
def pureKind : Op → Bool
  | .move _ | .assign _ | .pick _ _ _ | .load _ _ | .fieldAddr _ _ _ | .field _ _ _ | .indexAddr _ _ _ | .index _ _ _ | .binOp _ _ _ _ _ | .unOp _ _ _ | .convert _ _ _ | .extract _ _ | .build _ _ => true
  | .call { callee := .builtin .len, .. } => true
  | _ => false

theorem run_value {s : Sem Value} {P : Program} {w w' : World} {n : Next} (h : (do pure (Next.value (← s)) : Sem Next).run P w = .ok n w') : ∃ v, n = .value v := by
  simp only [Sem.run_bind] at h
  cases hs : s.run P w with
  | ok v w1 =>
    rw [hs] at h
    simp only [Result.andThen_ok, Sem.run_pure] at h
    cases h
    exact ⟨v, rfl⟩
  | halt x w1 =>
    rw [hs] at h
    cases h

theorem andThen_value {r : Result Value} {n : Next} {w' : World} (h : (r.andThen fun a w' => Result.ok (Next.value a) w') = .ok n w') : ∃ v, n = .value v := by
  cases r with
  | ok v w1 =>
    simp only [Result.andThen_ok] at h
    cases h
    exact ⟨v, rfl⟩
  | halt x w1 => cases h

theorem quiet_value {P : Program} {C : World → Prop} {o : Oper} {a : Act} {w : World} {v : Value} (hp : ∀ n w', (execOp a.eval o).run P w = .ok n w' → ∃ u, n = .value u) (h : o.quietAt P a C w v) :
    (execOp a.eval o).run P w = .ok (.value v) w := by
  unfold Oper.quietAt at h
  generalize hr : (execOp a.eval o).run P w = r at *
  cases r with
  | ok n w' =>
    obtain ⟨u, rfl⟩ := hp n w' rfl
    obtain ⟨rfl, rfl⟩ := h
    rfl
  | halt x w' => exact h.elim

theorem pure_value {P : Program} {o : Oper} {ρ : Operand → Value} {w w' : World} {n : Next} (hk : pureKind o.op = true) (h : (execOp ρ o).run P w = .ok n w') : ∃ v, n = .value v := by
  unfold execOp at h
  cases hop : o.op <;> rw [hop] at hk h <;> (try (exfalso; simp [pureKind] at hk; done))
  case call c =>
    obtain ⟨callee, args, tys⟩ := c
    cases callee <;> (try (exfalso; simp [pureKind] at hk; done))
    rename_i b
    cases b <;> (try (exfalso; simp [pureKind] at hk; done))
    simp only [resolve, invoke, builtin, Sem.run_bind, Sem.run_pure, Result.andThen_ok] at h
    exact andThen_value h
  case move x => simp only [Sem.run_pure] at h; cases h; exact ⟨_, rfl⟩
  case assign x => simp only [Sem.run_pure] at h; cases h; exact ⟨_, rfl⟩
  case pick c a b =>
    simp only [Sem.run_bind] at h
    cases hs : (asBool (ρ c)).run P w with
    | ok v w1 =>
      rw [hs] at h
      simp only [Result.andThen_ok, Sem.run_pure] at h
      cases h
      exact ⟨_, rfl⟩
    | halt x w1 =>
      rw [hs] at h
      cases h
  all_goals exact run_value h

def Meets (S : World → Prop) : Type := { x : World // S x }

/-- The rest in its forced order; S is shown behind what kp names. -/
def wpSeqF (P : Program) (ops : Array Oper) (Q : Exit → Act → World → Prop) (S : World → Prop) (kp : Nat → Bool) : Nat → List Oper → Act → World → Prop
  | _, [], a, w => Q .normal a w
  | i, o :: rest, a, w => if Region.wanted o (yielded ops a.tmps) then o.wp P a w (fun a' w' => (kp i = true → S w') ∧ wpSeqF P ops Q S kp (i + 1) rest a' w') Q ∨ (o.asks P a w ∧ LetsOut Q)
    else (kp i = true → S w) ∧ wpSeqF P ops Q S kp (i + 1) rest (a.put o.dst undef) w

section
variable {P : Program} {ops : Array Oper} {Q : Exit → Act → World → Prop} {md : Region.Mode} {S : World → Prop} {kp : Nat → Bool}
theorem wpAnyF_of_seq : ∀ (l : List Oper) (k : Nat) (listed : Array Bool) (a : Act) (w : World), (∀ j, l[j]? = ops[k + j]?) → Region.seqB md ops l.length k listed = true →
    wpSeqF P ops Q S kp k l a w → wpAnyF P md ops Q S kp l.length listed a w
  | [], k, listed, a, w, _, hB, h => ⟨by simpa [Region.seqB] using hB, h⟩
  | o :: l, k, listed, a, w, hl, hB, h => by
    have h0 : ops[k]? = some o := by simpa using (hl 0).symm
    simp only [List.length_cons, Region.seqB, Bool.and_eq_true, beq_iff_eq] at hB
    have hr : Region.ready md ops listed = [k] := of_decide_eq_true hB.1
    refine ⟨fun h0 => (by rw [hr] at h0; cases h0), fun j hj => ?_⟩
    rw [hr] at hj
    obtain rfl : j = k := by simpa using hj
    have hw : wpOp P ops Q j (fun a' w' => (kp j = true → S w') ∧ wpSeqF P ops Q S kp (j + 1) l a' w') a w := by
      unfold wpOp
      simp only [h0]
      unfold wpSeqF at h
      split
      · rename_i hw
        rw [if_pos hw] at h
        exact h
      · rename_i hw
        rw [if_neg hw] at h
        exact h
    exact wpOp_mono (fun a' w' h' => ⟨h'.1, wpAnyF_of_seq l (j + 1) _ a' w' (fun i => by have := hl (i + 1); simpa [Nat.add_assoc, Nat.add_comm 1 i] using this) hB.2 h'.2⟩) hw

theorem wpSeqF_nil {i : Nat} {a : Act} {w : World} (h : Q .normal a w) : wpSeqF P ops Q S kp i [] a w := h
theorem wpSeqF_step {i : Nat} {o : Oper} {rest : List Oper} {a : Act} {w : World}
    (h : ∀ K' : Act → World → Prop, Hid (∀ a w, (kp i = true → S w) → wpSeqF P ops Q S kp (i + 1) rest a w → K' a w) → if Region.wanted o (yielded ops a.tmps) = true then Oper.wp P o a w K' Q else K' (a.put o.dst undef) w) :
    wpSeqF P ops Q S kp i (o :: rest) a w := by
  have := h (fun a' w' => (kp i = true → S w') ∧ wpSeqF P ops Q S kp (i + 1) rest a' w') (fun a w h1 h2 => ⟨h1, h2⟩)
  unfold wpSeqF
  split
  · rename_i hw; rw [if_pos hw] at this; exact .inl this
  · rename_i hw; rw [if_neg hw] at this; exact this

/-- The front and the rest, as one Bool over the region. -/
def Region.frontSeqB (md : Region.Mode) (ops : Array Oper) (kp : Nat → Bool) (m : Nat) : Nat → Nat → Array Bool → Bool
  | 0, k, listed => Region.seqB md ops m k listed
  | n + 1, k, listed => (match ops[k]? with | some o => pureKind o.op | none => false) && ((Region.ready md ops listed).contains k && (Region.free md ops listed k && (frontB md ops kp k && Region.frontSeqB md ops kp m n (k + 1) (listed.setIfInBounds k true))))

theorem wpAnyF_front (hs : Region.noSelect ops = true) (hQ : ∀ c a d v w, Q (.panic c) (a.put d v) w → Q (.panic c) a w) : ∀ (l r : List Oper) (k : Nat) (listed : Array Bool) (a : Act) (w : World),
    (∀ j, (l ++ r)[j]? = ops[k + j]?) → Region.frontSeqB md ops kp r.length l.length k listed = true → S w →
    wpQuiet P ops (fun w' => ∃ x : Meets S, w' = x.val) (fun a' => wpSeqF P ops Q S kp (k + l.length) r a' w) l a → wpAnyF P md ops Q S kp (l ++ r).length listed a w
  | [], r, k, listed, a, w, hl, hB, _, h => wpAnyF_of_seq r k listed a w (by simpa using hl) (by simpa [Region.frontSeqB] using hB) (by simpa [wpQuiet] using h)
  | o :: l, r, k, listed, a, w, hl, hB, hS, h => by
    have h0 : ops[k]? = some o := by simpa using (hl 0).symm
    simp only [List.length_cons, Region.frontSeqB, h0, Bool.and_eq_true] at hB
    obtain ⟨hpk, hr, hf, hk, hB'⟩ := hB
    have hq : qOp P ops (fun w' => ∃ x : Meets S, w' = x.val) k (wpQuiet P ops (fun w' => ∃ x : Meets S, w' = x.val) (fun a' => wpSeqF P ops Q S kp (k + (o :: l).length) r a' w) l) a := by
      unfold qOp; simp only [h0]; exact h
    obtain ⟨v, hy, hK⟩ := yieldsIn_of_qOp h0 hq
    have hy' : YieldsIf P ops S o v a := by
      rcases hy with ⟨hw, hv⟩ | hy
      · exact .inl ⟨hw, fun w' hS' => quiet_value (fun n w1 h1 => pure_value hpk h1) (hv w' ⟨⟨w', hS'⟩, rfl⟩)⟩
      · exact .inr hy
    refine wpAnyF_take h0 hs hf hr hk (fun c a w => hQ c a _ _ w) hy' hS ?_
    exact wpAnyF_front hs hQ l r (k + 1) _ _ w (fun j => by have := hl (j + 1); simpa [Nat.add_assoc, Nat.add_comm 1 j] using this) hB' hS
      (by rw [show k + 1 + l.length = k + (o :: l).length from by simp only [List.length_cons]; omega]; exact hK)

/-- **A region that draws its order: its first n operations (which only read, in every world that meets S), then the rest, whose order is forced.** -/
theorem wp_region_fs {id : Nat} {a : Act} {w : World} {l : List Oper} (n : Nat) (kp : Nat → Bool) (S : World → Prop) (hm : P.follows .mixedOrders = true)
    (hB : (Region.noSelect l.toArray && (decide (n ≤ l.length) && Region.frontSeqB .any l.toArray kp (l.length - n) n 0 (Array.replicate l.toArray.size false))) = true)
    (hQ : ∀ c a d v w, Q (.panic c) (a.put d v) w → Q (.panic c) a w) (hS : S w.drew)
    (h : Nonempty (Meets S) → wpQuiet P l.toArray (fun w' => ∃ x : Meets S, w' = x.val) (fun a' => wpSeqF P l.toArray Q S kp n (l.drop n) a' w.drew) (l.take n) a) : (Code.region id l.toArray true).wp P Q a w := by
  simp only [Bool.and_eq_true, decide_eq_true_eq] at hB
  obtain ⟨h1, h2, h3⟩ := hB
  have htl : (l.take n).length = n := by simp; omega
  have hdl : (l.drop n).length = l.length - n := by simp
  have hcat : l.take n ++ l.drop n = l := List.take_append_drop n l
  refine wp_region_front kp S hm ?_
  have := wpAnyF_front (P := P) (ops := l.toArray) (Q := Q) (md := .any) (S := S) (kp := kp) h1 hQ (l.take n) (l.drop n) 0 (Array.replicate l.toArray.size false) a w.drew
    (fun j => by rw [hcat]; simp) (by rw [htl, hdl]; exact h3) hS (by rw [htl, Nat.zero_add]; exact h ⟨⟨w.drew, hS⟩⟩)
  rw [hcat] at this
  simpa using this
end
end Go.Proofs.Ytobeffjdfhkjeaa
