import Derived.RangeFuncNested
import Derived.RangeFuncBound
import Derived.RangeFuncCalls
import Derived.RangeFuncLeaves
import Derived.Shelf.Abstract
import Derived.Shelf.RegionOpen
import Derived.OwnWalkIn
import Derived.TacticsInMore
import Derived.LoopNIn
import Derived.LoopIn
import Derived.OrdersIn
import Derived.Test.YtmbkpfkkohpnkaaWo2
set_option linter.unusedVariables false
set_option linter.unusedSimpArgs false
namespace Go.Proofs.Ytmbkpfkkohpnkaa
open Go Go.RowKit Go.Shelf

/-! ### What is walked with no fence holds in a round -/
section
variable {P : Program} {ops : Array Oper} {Q : Exit → Act → World → Prop} {md : Region.Mode} {n l : Nat}

theorem rows_wide {row : String} {args : Array Value} {w : World} {R : Value → World → Prop} (h : Rows P row args w R) : RowsIn (Fence.wide.inRound l) n P row args w R :=
  fun c cs _ => let ⟨v, w', r, s⟩ := h c cs; ⟨v, w', r, stepsIn_wide.2 s⟩

def noDefer (o : Oper) : Bool := match o.op with | .defer _ => false | _ => true

theorem Oper.wp_inRound {o : Oper} {a : Act} {w : World} {K : Act → World → Prop} (hd : noDefer o = true) (h : o.wp P a w K Q) : o.wpIn (Fence.wide.inRound l) n P a w K Q := by
  unfold Oper.wpIn
  refine ⟨fun _ _ => trivial, ?_⟩
  rw [Oper.semAt_eq _ _ _ (fun c hc => by simp [noDefer, hc] at hd)]
  unfold Oper.wp at h
  generalize (execOp a.eval o).run P w = r at *
  cases r with
  | ok x w' =>
    cases x <;> simp only [Oper.upon, Oper.uponIn] at h ⊢
    case value => exact h
    case skip => exact h
    case defer => exact h
    case enter => exact ⟨fun h' => by simp [Fence.wide] at h', CallsIn.inRound l (callsIn_wide.2 h)⟩
    case row => exact ⟨fun h' => by simp [Fence.wide] at h', rows_wide h⟩
  | halt x w' => cases x <;> simp only [Oper.upon, Oper.uponIn] at h ⊢ <;> exact h

theorem wpOp_inRound {i : Nat} {K : Act → World → Prop} {a : Act} {w : World} (hd : ∀ o, ops[i]? = some o → noDefer o = true) (hq : ¬ LetsOut Q) (h : wpOp P ops Q i K a w) : wpOpIn (Fence.wide.inRound l) n P ops Q i K a w := by
  unfold wpOp at h
  unfold wpOpIn
  cases ho : ops[i]? with
  | none => simpa [ho] using h
  | some o =>
    simp only [ho] at h ⊢
    split at h
    · rename_i hw
      rw [if_pos hw]
      rcases h with h | h
      · exact Oper.wp_inRound (hd o ho) h
      · exact absurd h.2 hq
    · rename_i hw
      rw [if_neg hw]
      exact ⟨fun _ _ => trivial, h⟩

theorem wpAny_inRound (hd : ops.all noDefer = true) (hq : ¬ LetsOut Q) : ∀ (fuel : Nat) (listed : Array Bool) (a : Act) (w : World), wpAny P md ops Q fuel listed a w → wpAnyIn (Fence.wide.inRound l) n P md ops Q fuel listed a w
  | 0, _, _, _, h => h
  | fuel + 1, listed, a, w, h => ⟨h.1, fun i hi => wpOpIn_mono (fun a' w' h' => wpAny_inRound hd hq fuel _ a' w' h')
      (wpOp_inRound (fun o ho => by
        obtain ⟨hlt, rfl⟩ := Array.getElem?_eq_some_iff.1 ho
        exact Array.all_eq_true.1 hd i hlt) hq (h.2 i hi))⟩

variable {S : World → Prop} {kp : Nat → Bool}

/-- Two operations may come next. -/
theorem wpAnyF_two {i j : Nat} {oi oj : Oper} {fuel : Nat} {listed : Array Bool} {a : Act} {w : World} (hr : Region.ready md ops listed = [i, j]) (hi : ops[i]? = some oi) (hj : ops[j]? = some oj)
    (h1 : ∀ K' : Act → World → Prop, Hid (∀ a w, (kp i = true → S w) → wpAnyF P md ops Q S kp fuel (listed.setIfInBounds i true) a w → K' a w) → if Region.wanted oi (yielded ops a.tmps) = true then Oper.wp P oi a w K' Q else K' (a.put oi.dst undef) w)
    (h2 : ∀ K' : Act → World → Prop, Hid (∀ a w, (kp j = true → S w) → wpAnyF P md ops Q S kp fuel (listed.setIfInBounds j true) a w → K' a w) → if Region.wanted oj (yielded ops a.tmps) = true then Oper.wp P oj a w K' Q else K' (a.put oj.dst undef) w) :
    wpAnyF P md ops Q S kp (fuel + 1) listed a w := by
  refine ⟨fun h0 => (by rw [hr] at h0; cases h0), fun m hm => ?_⟩
  rw [hr] at hm
  rcases (by simpa using hm : m = i ∨ m = j) with rfl | rfl
  · exact wpOp_step hi fun K' hK => h1 K' fun a w hS hW => hK a w ⟨hS, hW⟩
  · exact wpOp_step hj fun K' hK => h2 K' fun a w hS hW => hK a w ⟨hS, hW⟩

/-- **In a round: a region that draws its order: these operations first (they only read, in every world that meets S), then whatever order is left.** -/
theorem wpIn_region_pickA {id : Nat} {a : Act} {w : World} {ol : List Oper} (fs : List Nat) (m : Nat) (kp : Nat → Bool) (S : World → Prop) (hm : P.follows .mixedOrders = true)
    (hB : (ol.toArray.all noDefer && (Region.noSelect ol.toArray && (frontPickB .any ol.toArray kp fs (Array.replicate ol.toArray.size false) && decide (fs.length + m = ol.length)))) = true)
    (hq : ¬ LetsOut Q) (hQ : ∀ c a d v w, Q (.panic c) (a.put d v) w → Q (.panic c) a w) (hS : S w.drew)
    (h : Nonempty (Meets S) → wpQuiet P ol.toArray (fun w' => ∃ x : Meets S, w' = x.val) (fun a' => wpAnyF P .any ol.toArray Q S kp m (listAll fs (Array.replicate ol.toArray.size false)) a' w.drew) (pick ol fs) a) :
    (Code.region id ol.toArray true).wpIn (Fence.wide.inRound l) n P Q a w := by
  simp only [Bool.and_eq_true, decide_eq_true_eq] at hB
  obtain ⟨h0, h1, h2, h3⟩ := hB
  refine wpIn_region_any hm (wpAny_inRound h0 hq _ _ _ _ (wpAny_of_front (S := S) (kp := kp) _ _ _ _ ?_))
  have hq' := h ⟨⟨w.drew, hS⟩⟩
  have := wpAnyF_pick (P := P) (ops := ol.toArray) (Q := Q) (md := .any) (S := S) (kp := kp) h1 hQ m fs (Array.replicate ol.toArray.size false) a w.drew h2 hS (by simpa using hq')
  rw [h3] at this
  simpa using this
end
theorem grown_below {w w' : World} (h : Below w.heap.size w w') : w.grownBy w' none :=
  ⟨h.os, h.tape, h.output, h.size, fun k hk _ => h.block k hk⟩
theorem keeps_below {w w' : World} (h : Below w.heap.size w w') : KeepsOthers w w' :=
  ⟨h.size, fun k o hk _ => (h.block k (Array.getElem?_eq_some_iff.1 hk).1).trans hk⟩

/-- The blocks of X are kept. -/
def Keep (X : Nat → Prop) (W W' : World) : Prop := ∀ k, X k → W'.heap[k]? = W.heap[k]?
theorem Keep.refl (X : Nat → Prop) (W : World) : Keep X W W := fun _ _ => rfl
theorem Keep.trans {X : Nat → Prop} {A B C : World} (h : Keep X A B) (k : Keep X B C) : Keep X A C := fun i hi => (k i hi).trans (h i hi)
theorem Keep.cell {X : Nat → Prop} {A B : World} (h : Keep X A B) {p : Addr} {v : Value} (hp : X p.block) (hc : A.cell? p = some v) : B.cell? p = some v := by
  rw [← hc]
  unfold World.cell?
  rw [h _ hp]
theorem Keep.below {X : Nat → Prop} {A B : World} {n : Nat} (hX : ∀ k, X k → k < n) (h : Below n A B) : Keep X A B := fun k hk => h.block k (hX k hk)

theorem Keep.lt {X : Nat → Prop} {A B : World} (h : Keep X A B) {k : Nat} (hk : X k) (hA : k < A.heap.size) : k < B.heap.size := by
  have h1 := h k hk
  rw [Array.getElem?_eq_getElem hA] at h1
  exact (Array.getElem?_eq_some_iff.1 h1).1

/-- The first k of n places. -/
def ups (n k : Nat) : List { j : Nat // j < n } := (List.range k).filterMap fun j => if h : j < n then some ⟨j, h⟩ else none
theorem ups_succ {n k : Nat} (h : k < n) : ups n (k + 1) = ups n k ++ [⟨k, h⟩] := by simp [ups, List.range_succ, List.filterMap_append, h]
theorem ups_length {n k : Nat} (h : k ≤ n) : (ups n k).length = k := by
  induction k with
  | zero => rfl
  | succ k ih => rw [ups_succ (by omega)]; simp [ih (by omega)]

theorem heap_setCell_other (W : World) (g o : Nat) (v : Value) {k : Nat} (h : k ≠ g) : (W.setCell ⟨g, o, none⟩ v).heap[k]? = W.heap[k]? := by
  show (W.heap.modify g _)[k]? = _
  rw [Array.getElem?_modify, if_neg (fun e => h e.symm)]
theorem Keep.setCell {X : Nat → Prop} {A B : World} (h : Keep X A B) {g : Nat} (hg : ¬ X g) (o : Nat) (v : Value) : Keep X A (B.setCell ⟨g, o, none⟩ v) :=
  fun k hk => (heap_setCell_other B g o v (fun e => hg (e ▸ hk))).trans (h k hk)
theorem wpSeqP_name {P : Program} {ops : Array Oper} {Q : Exit → Act → World → Prop} {S : World → Prop} {kp : Nat → Bool} {l : List (Nat × Oper)} {a : Act} {w : World} (F : World → Prop) (hF : F w) (h : ∀ W, F W → wpSeqP P ops Q S kp l a W) : wpSeqP P ops Q S kp l a w := h w hF

/-- The marks that the loops over an iterator have left behind. -/
def marks (ds : List Nat) : List Deferred := ds.map fun D => { target := .collected D, args := #[] }

/-- Marks whose blocks lie open. -/
def OpenMarks (n₀ : Nat) (W : World) (ds : List Nat) : Prop := ds.Nodup ∧ ∀ d ∈ ds, n₀ ≤ d ∧ W.heap[d]? = some (.deferred (some []))

theorem OpenMarks.keeps {n₀ : Nat} {W W' : World} {ds : List Nat} (h : OpenMarks n₀ W ds) (k : KeepsOthers W W') : OpenMarks n₀ W' ds :=
  ⟨h.1, fun d hd => ⟨(h.2 d hd).1, k.same d _ (h.2 d hd).2 rfl⟩⟩

theorem OpenMarks.own {β : Type} {B n₀ : Nat} {ds : List Nat} (hB : ∀ d ∈ ds, d < B) : OwnFrom B (fun (_ : β) W => OpenMarks n₀ W ds) := fun s W W' row h hg hr =>
  ⟨h.1, fun d hd => ⟨(h.2 d hd).1, (hg.block d (Array.getElem?_eq_some_iff.1 (h.2 d hd).2).1 (fun e => by have := (hr d e.symm).1; have := hB d hd; omega)).trans (h.2 d hd).2⟩⟩

theorem size_own {β : Type} {B n₀ : Nat} : OwnFrom B (fun (_ : β) W => n₀ ≤ W.heap.size) := fun s W W' row h hg hr => Nat.le_trans h hg.size

theorem leaves_marks {F : Fence} {n : Nat} {P : Program} {fn : Func} {tmps : Array Value} {R : Ending → World → Prop} (n₀ : Nat) : ∀ (ds : List Nat) (W : World), OpenMarks n₀ W ds →
    (∀ W', Below n₀ W W' → (∀ (k : Nat) (o : Obj), W.heap[k]? = some o → o.isCells = true → W'.heap[k]? = some o) → ∃ v, (results fn tmps).run P W' = .ok v W' ∧ R (.returned v) W') →
    LeavesInM F n P fn tmps R (marks ds) .returning W
  | [], W, _, h => h W (Below.refl _ _) (fun _ _ hk _ => hk)
  | d :: ds, W, ho, h => by
    obtain ⟨hnd, ha⟩ := ho
    obtain ⟨hd0, hd⟩ := ha d (by simp)
    simp only [List.nodup_cons] at hnd
    refine ⟨by simp, .inl ⟨d, _, rfl, run_takeDeferred hd, ?_⟩⟩
    have hb : Below n₀ W (W.putObj d (.deferred none)) := ⟨rfl, rfl, rfl, by simp [World.putObj], fun k hk => World.putObj_heap_other (by omega)⟩
    refine leaves_marks n₀ ds _ ⟨hnd.2, fun x hx => ⟨(ha x (by simp [hx])).1, ?_⟩⟩ (fun W' hb' hk' => h W' (hb.trans hb') (fun k o hk hc => hk' k o ?_ hc))
    · rw [World.putObj_heap_other (fun e => hnd.1 (by rw [← e]; exact hx))]
      exact (ha x (by simp [hx])).2
    · rw [World.putObj_heap_other (fun e => by subst e; rw [hd] at hk; cases hk; simp [Obj.isCells] at hc)]
      exact hk


section
variable {P : Program} {Q : Exit → Act → World → Prop} {n l : Nat}
theorem wpIn_region_noPanic {F : Fence} {id : Nat} {ops : Array Oper} {b : Bool} {a : Act} {w : World} (h : (Code.region id ops b).wpIn F n P (NoPanic Q) a w) : (Code.region id ops b).wpIn F n P Q a w :=
  wpIn_mono h NoPanic.imp
/-- In a round: reads in any order first, then a forced order. -/
theorem wpIn_region_pick {id : Nat} {a : Act} {w : World} {ol : List Oper} (fs rs : List Nat) (kp : Nat → Bool) (S : World → Prop) (hm : P.follows .mixedOrders = true)
    (hB : (ol.toArray.all noDefer && (Region.noSelect ol.toArray && (frontPickB .any ol.toArray kp fs (Array.replicate ol.toArray.size false) && (seqPickB .any ol.toArray rs (listAll fs (Array.replicate ol.toArray.size false)) && (decide (fs.length + rs.length = ol.length) && rs.all fun i => decide (i < ol.length)))))) = true)
    (hq : ¬ LetsOut Q) (hQ : ∀ c a d v w, Q (.panic c) (a.put d v) w → Q (.panic c) a w) (hS : S w.drew)
    (h : Nonempty (Meets S) → wpQuiet P ol.toArray (fun w' => ∃ x : Meets S, w' = x.val) (fun a' => wpSeqP P ol.toArray Q S kp (pickN ol rs) a' w.drew) (pick ol fs) a) : (Code.region id ol.toArray true).wpIn (Fence.wide.inRound l) n P Q a w := by
  simp only [Bool.and_eq_true, decide_eq_true_eq] at hB
  obtain ⟨h0, h1, h2, h3, h4, h5⟩ := hB
  refine wpIn_region_any hm (wpAny_inRound h0 hq _ _ _ _ (wpAny_of_front (S := S) (kp := kp) _ _ _ _ ?_))
  have hqq := h ⟨⟨w.drew, hS⟩⟩
  have := wpAnyF_pick (P := P) (ops := ol.toArray) (Q := Q) (md := .any) (S := S) (kp := kp) h1 hQ rs.length fs (Array.replicate ol.toArray.size false) a w.drew h2 hS (by
    refine wpQuiet_mono (fun a' h' => ?_) _ _ hqq
    refine wpAnyF_of_pick rs _ a' w.drew (fun i hi => ?_) h3 h'
    have := List.all_eq_true.1 h5 i hi
    simpa using this)
  rw [h4] at this
  simpa using this
/-- In a round: phases. -/
theorem wpIn_region_ph {id : Nat} {a : Act} {w : World} {ol : List Oper} (ph : List (List Nat × List Nat)) (kp : Nat → Bool) (S : World → Prop) (hm : P.follows .mixedOrders = true)
    (hB : (ol.toArray.all noDefer && (Region.noSelect ol.toArray && (phB .any ol.toArray kp ph (Array.replicate ol.toArray.size false) && decide (phLen ph = ol.length)))) = true)
    (hq : ¬ LetsOut Q) (hQ : ∀ c a d v w, Q (.panic c) (a.put d v) w → Q (.panic c) a w)
    (h : wpPh P ol.toArray Q S kp ph a w.drew) : (Code.region id ol.toArray true).wpIn (Fence.wide.inRound l) n P Q a w := by
  simp only [Bool.and_eq_true, decide_eq_true_eq] at hB
  obtain ⟨h0, h1, h2, h3⟩ := hB
  refine wpIn_region_any hm (wpAny_inRound h0 hq _ _ _ _ (wpAny_of_front (S := S) (kp := kp) _ _ _ _ ?_))
  have := wpAnyF_ph (P := P) (Q := Q) (S := S) h1 hQ ph (Array.replicate ol.toArray.size false) a w.drew h2 h
  rw [h3] at this
  simpa using this
/-- In a round: reads, and calls that hand back known values. -/
theorem wpIn_region_later {id : Nat} {a : Act} {w : World} {ol : List Oper} (hm : P.follows .mixedOrders = true) (hB : (ol.toArray.all noDefer && Region.lexB .any ol.toArray) = true) (hq : ¬ LetsOut Q)
    (h : wpQuiet P ol.toArray (fun w' => ∃ x : Later w, w' = x.val) (fun a' => ∀ w', (∃ x : Later w, w' = x.val) → Q .normal a' w') ol a) : (Code.region id ol.toArray true).wpIn (Fence.wide.inRound l) n P Q a w := by
  simp only [Bool.and_eq_true] at hB
  obtain ⟨h0, hB⟩ := hB
  simp only [Region.lexB, Bool.and_eq_true] at hB
  refine wpIn_region_any hm (wpAny_inRound h0 hq _ _ _ _ (wpAny_of_quiet (C := fun w' => ∃ x : Later w, w' = x.val) (Q := fun a' => ∀ w', (∃ x : Later w, w' = x.val) → Q .normal a' w') (fun _ w' hw' h => h w' hw') _ _ _ _ ⟨⟨w.drew, (Below.refl _ _).drew⟩, rfl⟩ ?_))
  have := wpAnyQ_lex (C := fun w' => ∃ x : Later w, w' = x.val) (md := .any) hB.1 ol 0 (Array.replicate ol.toArray.size false) a (by simp) (by simpa using hB.2) h
  simpa using this
end
/-- A call of a function value among reads. -/
theorem wpQuiet_callv {P : Program} {ops : Array Oper} {w : World} {Q : Act → Prop} {o : Oper} {rest : List Oper} {a : Act} (x : Operand) (args : List Operand) (tys : Array TypeId) (hg : o.guard = none)
    (hop : o.op = .call { callee := .value x, args := args.toArray, argTypes := tys }) (f : Value) (hf : a.eval x = f) (az : List Value) (has : args.map a.eval = az) (v : Value) (hcall : ∀ X : Later w, CallsVal P f az.toArray X.val (Gives X.val v))
    (hk : wpQuiet P ops (fun w' => ∃ x : Later w, w' = x.val) Q rest (a.put o.dst v)) : wpQuiet P ops (fun w' => ∃ x : Later w, w' = x.val) Q (o :: rest) a := by
  have hw : Region.wanted o (yielded ops a.tmps) = true := by simp [Region.wanted, hg]
  unfold wpQuiet
  rw [if_pos hw]
  refine ⟨v, fun w' hw' => ?_, hk⟩
  obtain ⟨X, rfl⟩ := hw'
  obtain ⟨g, az', hrun, hc⟩ := hcall X
  unfold Oper.quietAt execOp
  simp only [hop, resolve, hf, List.map_toArray, has]
  simp only [Sem.run_bind] at hrun ⊢
  rw [hrun]
  exact ⟨rfl, hc.mono fun e w'' ⟨he, hb⟩ => ⟨he, ⟨w'', X.property.trans (hb.mono X.property.size)⟩, rfl⟩⟩
end Go.Proofs.Ytmbkpfkkohpnkaa
