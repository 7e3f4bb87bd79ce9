import Derived.RangeFuncNested
import Derived.RangeFuncBound
import Derived.RangeFuncCalls
import Derived.RangeFuncLeaves
import Derived.Shelf.Abstract
import Derived.Shelf.RegionOpen
import Derived.OwnWalkIn
import Derived.TacticsInMore
import Derived.LoopNIn
import Derived.LoopIn
import Derived.OrdersIn
import Derived.Test.YtckgapeednokjaaGreatUs
set_option linter.unusedVariables false
set_option linter.unusedSimpArgs false
namespace Go.Proofs.YtckgapeednokjaaGreat
open Go Go.RowKit Go.Shelf

/-! ### What is walked with no fence holds in a round -/
section
variable {P : Program} {ops : Array Oper} {Q : Exit → Act → World → Prop} {md : Region.Mode} {n l : Nat}

theorem rows_wide {row : String} {args : Array Value} {w : World} {R : Value → World → Prop} (h : Rows P row args w R) : RowsIn (Fence.wide.inRound l) n P row args w R :=
  fun c cs _ => let ⟨v, w', r, s⟩ := h c cs; ⟨v, w', r, stepsIn_wide.2 s⟩

def noDefer (o : Oper) : Bool := match o.op with | .defer _ => false | _ => true

theorem Oper.wp_inRound {o : Oper} {a : Act} {w : World} {K : Act → World → Prop} (hd : noDefer o = true) (h : o.wp P a w K Q) : o.wpIn (Fence.wide.inRound l) n P a w K Q := by
  unfold Oper.wpIn
  refine ⟨fun _ _ => trivial, ?_⟩
  rw [Oper.semAt_eq _ _ _ (fun c hc => by simp [noDefer, hc] at hd)]
  unfold Oper.wp at h
  generalize (execOp a.eval o).run P w = r at *
  cases r with
  | ok x w' =>
    cases x <;> simp only [Oper.upon, Oper.uponIn] at h ⊢
    case value => exact h
    case skip => exact h
    case defer => exact h
    case enter => exact ⟨fun h' => by simp [Fence.wide] at h', CallsIn.inRound l (callsIn_wide.2 h)⟩
    case row => exact ⟨fun h' => by simp [Fence.wide] at h', rows_wide h⟩
  | halt x w' => cases x <;> simp only [Oper.upon, Oper.uponIn] at h ⊢ <;> exact h

theorem wpOp_inRound {i : Nat} {K : Act → World → Prop} {a : Act} {w : World} (hd : ∀ o, ops[i]? = some o → noDefer o = true) (hq : ¬ LetsOut Q) (h : wpOp P ops Q i K a w) : wpOpIn (Fence.wide.inRound l) n P ops Q i K a w := by
  unfold wpOp at h
  unfold wpOpIn
  cases ho : ops[i]? with
  | none => simpa [ho] using h
  | some o =>
    simp only [ho] at h ⊢
    split at h
    · rename_i hw
      rw [if_pos hw]
      rcases h with h | h
      · exact Oper.wp_inRound (hd o ho) h
      · exact absurd h.2 hq
    · rename_i hw
      rw [if_neg hw]
      exact ⟨fun _ _ => trivial, h⟩

theorem wpAny_inRound (hd : ops.all noDefer = true) (hq : ¬ LetsOut Q) : ∀ (fuel : Nat) (listed : Array Bool) (a : Act) (w : World), wpAny P md ops Q fuel listed a w → wpAnyIn (Fence.wide.inRound l) n P md ops Q fuel listed a w
  | 0, _, _, _, h => h
  | fuel + 1, listed, a, w, h => ⟨h.1, fun i hi => wpOpIn_mono (fun a' w' h' => wpAny_inRound hd hq fuel _ a' w' h')
      (wpOp_inRound (fun o ho => by
        obtain ⟨hlt, rfl⟩ := Array.getElem?_eq_some_iff.1 ho
        exact Array.all_eq_true.1 hd i hlt) hq (h.2 i hi))⟩

variable {S : World → Prop} {kp : Nat → Bool}

/-- Two operations may come next. -/
theorem wpAnyF_two {i j : Nat} {oi oj : Oper} {fuel : Nat} {listed : Array Bool} {a : Act} {w : World} (hr : Region.ready md ops listed = [i, j]) (hi : ops[i]? = some oi) (hj : ops[j]? = some oj)
    (h1 : ∀ K' : Act → World → Prop, Hid (∀ a w, (kp i = true → S w) → wpAnyF P md ops Q S kp fuel (listed.setIfInBounds i true) a w → K' a w) → if Region.wanted oi (yielded ops a.tmps) = true then Oper.wp P oi a w K' Q else K' (a.put oi.dst undef) w)
    (h2 : ∀ K' : Act → World → Prop, Hid (∀ a w, (kp j = true → S w) → wpAnyF P md ops Q S kp fuel (listed.setIfInBounds j true) a w → K' a w) → if Region.wanted oj (yielded ops a.tmps) = true then Oper.wp P oj a w K' Q else K' (a.put oj.dst undef) w) :
    wpAnyF P md ops Q S kp (fuel + 1) listed a w := by
  refine ⟨fun h0 => (by rw [hr] at h0; cases h0), fun m hm => ?_⟩
  rw [hr] at hm
  rcases (by simpa using hm : m = i ∨ m = j) with rfl | rfl
  · exact wpOp_step hi fun K' hK => h1 K' fun a w hS hW => hK a w ⟨hS, hW⟩
  · exact wpOp_step hj fun K' hK => h2 K' fun a w hS hW => hK a w ⟨hS, hW⟩

/-- **In a round: a region that draws its order: these operations first (they only read, in every world that meets S), then whatever order is left.** -/
theorem wpIn_region_pickA {id : Nat} {a : Act} {w : World} {ol : List Oper} (fs : List Nat) (m : Nat) (kp : Nat → Bool) (S : World → Prop) (hm : P.follows .mixedOrders = true)
    (hB : (ol.toArray.all noDefer && (Region.noSelect ol.toArray && (frontPickB .any ol.toArray kp fs (Array.replicate ol.toArray.size false) && decide (fs.length + m = ol.length)))) = true)
    (hq : ¬ LetsOut Q) (hQ : ∀ c a d v w, Q (.panic c) (a.put d v) w → Q (.panic c) a w) (hS : S w.drew)
    (h : Nonempty (Meets S) → wpQuiet P ol.toArray (fun w' => ∃ x : Meets S, w' = x.val) (fun a' => wpAnyF P .any ol.toArray Q S kp m (listAll fs (Array.replicate ol.toArray.size false)) a' w.drew) (pick ol fs) a) :
    (Code.region id ol.toArray true).wpIn (Fence.wide.inRound l) n P Q a w := by
  simp only [Bool.and_eq_true, decide_eq_true_eq] at hB
  obtain ⟨h0, h1, h2, h3⟩ := hB
  refine wpIn_region_any hm (wpAny_inRound h0 hq _ _ _ _ (wpAny_of_front (S := S) (kp := kp) _ _ _ _ ?_))
  have hq' := h ⟨⟨w.drew, hS⟩⟩
  have := wpAnyF_pick (P := P) (ops := ol.toArray) (Q := Q) (md := .any) (S := S) (kp := kp) h1 hQ m fs (Array.replicate ol.toArray.size false) a w.drew h2 hS (by simpa using hq')
  rw [h3] at this
  simpa using this
end
theorem grown_below {w w' : World} (h : Below w.heap.size w w') : w.grownBy w' none :=
  ⟨h.os, h.tape, h.output, h.size, fun k hk _ => h.block k hk⟩
theorem keeps_below {w w' : World} (h : Below w.heap.size w w') : KeepsOthers w w' :=
  ⟨h.size, fun k o hk _ => (h.block k (Array.getElem?_eq_some_iff.1 hk).1).trans hk⟩

/-- The blocks of X are kept. -/
def Keep (X : Nat → Prop) (W W' : World) : Prop := ∀ k, X k → W'.heap[k]? = W.heap[k]?
theorem Keep.refl (X : Nat → Prop) (W : World) : Keep X W W := fun _ _ => rfl
theorem Keep.trans {X : Nat → Prop} {A B C : World} (h : Keep X A B) (k : Keep X B C) : Keep X A C := fun i hi => (k i hi).trans (h i hi)
theorem Keep.cell {X : Nat → Prop} {A B : World} (h : Keep X A B) {p : Addr} {v : Value} (hp : X p.block) (hc : A.cell? p = some v) : B.cell? p = some v := by
  rw [← hc]
  unfold World.cell?
  rw [h _ hp]
theorem Keep.below {X : Nat → Prop} {A B : World} {n : Nat} (hX : ∀ k, X k → k < n) (h : Below n A B) : Keep X A B := fun k hk => h.block k (hX k hk)

theorem Keep.lt {X : Nat → Prop} {A B : World} (h : Keep X A B) {k : Nat} (hk : X k) (hA : k < A.heap.size) : k < B.heap.size := by
  have h1 := h k hk
  rw [Array.getElem?_eq_getElem hA] at h1
  exact (Array.getElem?_eq_some_iff.1 h1).1

/-- The first k of n places. -/
def ups (n k : Nat) : List { j : Nat // j < n } := (List.range k).filterMap fun j => if h : j < n then some ⟨j, h⟩ else none
theorem ups_succ {n k : Nat} (h : k < n) : ups n (k + 1) = ups n k ++ [⟨k, h⟩] := by simp [ups, List.range_succ, List.filterMap_append, h]
theorem ups_length {n k : Nat} (h : k ≤ n) : (ups n k).length = k := by
  induction k with
  | zero => rfl
  | succ k ih => rw [ups_succ (by omega)]; simp [ih (by omega)]

theorem heap_setCell_other (W : World) (g o : Nat) (v : Value) {k : Nat} (h : k ≠ g) : (W.setCell ⟨g, o, none⟩ v).heap[k]? = W.heap[k]? := by
  show (W.heap.modify g _)[k]? = _
  rw [Array.getElem?_modify, if_neg (fun e => h e.symm)]
theorem Keep.setCell {X : Nat → Prop} {A B : World} (h : Keep X A B) {g : Nat} (hg : ¬ X g) (o : Nat) (v : Value) : Keep X A (B.setCell ⟨g, o, none⟩ v) :=
  fun k hk => (heap_setCell_other B g o v (fun e => hg (e ▸ hk))).trans (h k hk)
theorem wpSeqP_name {P : Program} {ops : Array Oper} {Q : Exit → Act → World → Prop} {S : World → Prop} {kp : Nat → Bool} {l : List (Nat × Oper)} {a : Act} {w : World} (F : World → Prop) (hF : F w) (h : ∀ W, F W → wpSeqP P ops Q S kp l a W) : wpSeqP P ops Q S kp l a w := h w hF

/-- The marks that the loops over an iterator have left behind. -/
def marks (ds : List Nat) : List Deferred := ds.map fun D => { target := .collected D, args := #[] }

/-- Marks whose blocks lie open. -/
def OpenMarks (n₀ : Nat) (W : World) (ds : List Nat) : Prop := ds.Nodup ∧ ∀ d ∈ ds, n₀ ≤ d ∧ W.heap[d]? = some (.deferred (some []))

theorem OpenMarks.keeps {n₀ : Nat} {W W' : World} {ds : List Nat} (h : OpenMarks n₀ W ds) (k : KeepsOthers W W') : OpenMarks n₀ W' ds :=
  ⟨h.1, fun d hd => ⟨(h.2 d hd).1, k.same d _ (h.2 d hd).2 rfl⟩⟩

theorem OpenMarks.own {β : Type} {B n₀ : Nat} {ds : List Nat} (hB : ∀ d ∈ ds, d < B) : OwnFrom B (fun (_ : β) W => OpenMarks n₀ W ds) := fun s W W' row h hg hr =>
  ⟨h.1, fun d hd => ⟨(h.2 d hd).1, (hg.block d (Array.getElem?_eq_some_iff.1 (h.2 d hd).2).1 (fun e => by have := (hr d e.symm).1; have := hB d hd; omega)).trans (h.2 d hd).2⟩⟩

theorem size_own {β : Type} {B n₀ : Nat} : OwnFrom B (fun (_ : β) W => n₀ ≤ W.heap.size) := fun s W W' row h hg hr => Nat.le_trans h hg.size

theorem leaves_marks {F : Fence} {n : Nat} {P : Program} {fn : Func} {tmps : Array Value} {R : Ending → World → Prop} (n₀ : Nat) : ∀ (ds : List Nat) (W : World), OpenMarks n₀ W ds →
    (∀ W', Below n₀ W W' → (∀ (k : Nat) (o : Obj), W.heap[k]? = some o → o.isCells = true → W'.heap[k]? = some o) → ∃ v, (results fn tmps).run P W' = .ok v W' ∧ R (.returned v) W') →
    LeavesInM F n P fn tmps R (marks ds) .returning W
  | [], W, _, h => h W (Below.refl _ _) (fun _ _ hk _ => hk)
  | d :: ds, W, ho, h => by
    obtain ⟨hnd, ha⟩ := ho
    obtain ⟨hd0, hd⟩ := ha d (by simp)
    simp only [List.nodup_cons] at hnd
    refine ⟨by simp, .inl ⟨d, _, rfl, run_takeDeferred hd, ?_⟩⟩
    have hb : Below n₀ W (W.putObj d (.deferred none)) := ⟨rfl, rfl, rfl, by simp [World.putObj], fun k hk => World.putObj_heap_other (by omega)⟩
    refine leaves_marks n₀ ds _ ⟨hnd.2, fun x hx => ⟨(ha x (by simp [hx])).1, ?_⟩⟩ (fun W' hb' hk' => h W' (hb.trans hb') (fun k o hk hc => hk' k o ?_ hc))
    · rw [World.putObj_heap_other (fun e => hnd.1 (by rw [← e]; exact hx))]
      exact (ha x (by simp [hx])).2
    · rw [World.putObj_heap_other (fun e => by subst e; rw [hd] at hk; cases hk; simp [Obj.isCells] at hc)]
      exact hk


section
variable {P : Program} {Q : Exit → Act → World → Prop} {n l : Nat}
theorem wpIn_region_noPanic {F : Fence} {id : Nat} {ops : Array Oper} {b : Bool} {a : Act} {w : World} (h : (Code.region id ops b).wpIn F n P (NoPanic Q) a w) : (Code.region id ops b).wpIn F n P Q a w :=
  wpIn_mono h NoPanic.imp
/-- In a round: reads in any order first, then a forced order. -/
theorem wpIn_region_pick {id : Nat} {a : Act} {w : World} {ol : List Oper} (fs rs : List Nat) (kp : Nat → Bool) (S : World → Prop) (hm : P.follows .mixedOrders = true)
    (hB : (ol.toArray.all noDefer && (Region.noSelect ol.toArray && (frontPickB .any ol.toArray kp fs (Array.replicate ol.toArray.size false) && (seqPickB .any ol.toArray rs (listAll fs (Array.replicate ol.toArray.size false)) && (decide (fs.length + rs.length = ol.length) && rs.all fun i => decide (i < ol.length)))))) = true)
    (hq : ¬ LetsOut Q) (hQ : ∀ c a d v w, Q (.panic c) (a.put d v) w → Q (.panic c) a w) (hS : S w.drew)
    (h : Nonempty (Meets S) → wpQuiet P ol.toArray (fun w' => ∃ x : Meets S, w' = x.val) (fun a' => wpSeqP P ol.toArray Q S kp (pickN ol rs) a' w.drew) (pick ol fs) a) : (Code.region id ol.toArray true).wpIn (Fence.wide.inRound l) n P Q a w := by
  simp only [Bool.and_eq_true, decide_eq_true_eq] at hB
  obtain ⟨h0, h1, h2, h3, h4, h5⟩ := hB
  refine wpIn_region_any hm (wpAny_inRound h0 hq _ _ _ _ (wpAny_of_front (S := S) (kp := kp) _ _ _ _ ?_))
  have hqq := h ⟨⟨w.drew, hS⟩⟩
  have := wpAnyF_pick (P := P) (ops := ol.toArray) (Q := Q) (md := .any) (S := S) (kp := kp) h1 hQ rs.length fs (Array.replicate ol.toArray.size false) a w.drew h2 hS (by
    refine wpQuiet_mono (fun a' h' => ?_) _ _ hqq
    refine wpAnyF_of_pick rs _ a' w.drew (fun i hi => ?_) h3 h'
    have := List.all_eq_true.1 h5 i hi
    simpa using this)
  rw [h4] at this
  simpa using this
/-- In a round: phases. -/
theorem wpIn_region_ph {id : Nat} {a : Act} {w : World} {ol : List Oper} (ph : List (List Nat × List Nat)) (kp : Nat → Bool) (S : World → Prop) (hm : P.follows .mixedOrders = true)
    (hB : (ol.toArray.all noDefer && (Region.noSelect ol.toArray && (phB .any ol.toArray kp ph (Array.replicate ol.toArray.size false) && decide (phLen ph = ol.length)))) = true)
    (hq : ¬ LetsOut Q) (hQ : ∀ c a d v w, Q (.panic c) (a.put d v) w → Q (.panic c) a w)
    (h : wpPh P ol.toArray Q S kp ph a w.drew) : (Code.region id ol.toArray true).wpIn (Fence.wide.inRound l) n P Q a w := by
  simp only [Bool.and_eq_true, decide_eq_true_eq] at hB
  obtain ⟨h0, h1, h2, h3⟩ := hB
  refine wpIn_region_any hm (wpAny_inRound h0 hq _ _ _ _ (wpAny_of_front (S := S) (kp := kp) _ _ _ _ ?_))
  have := wpAnyF_ph (P := P) (Q := Q) (S := S) h1 hQ ph (Array.replicate ol.toArray.size false) a w.drew h2 h
  rw [h3] at this
  simpa using this
/-- In a round: reads, and calls that hand back known values. -/
theorem wpIn_region_later {id : Nat} {a : Act} {w : World} {ol : List Oper} (hm : P.follows .mixedOrders = true) (hB : (ol.toArray.all noDefer && Region.lexB .any ol.toArray) = true) (hq : ¬ LetsOut Q)
    (h : wpQuiet P ol.toArray (fun w' => ∃ x : Later w, w' = x.val) (fun a' => ∀ w', (∃ x : Later w, w' = x.val) → Q .normal a' w') ol a) : (Code.region id ol.toArray true).wpIn (Fence.wide.inRound l) n P Q a w := by
  simp only [Bool.and_eq_true] at hB
  obtain ⟨h0, hB⟩ := hB
  simp only [Region.lexB, Bool.and_eq_true] at hB
  refine wpIn_region_any hm (wpAny_inRound h0 hq _ _ _ _ (wpAny_of_quiet (C := fun w' => ∃ x : Later w, w' = x.val) (Q := fun a' => ∀ w', (∃ x : Later w, w' = x.val) → Q .normal a' w') (fun _ w' hw' h => h w' hw') _ _ _ _ ⟨⟨w.drew, (Below.refl _ _).drew⟩, rfl⟩ ?_))
  have := wpAnyQ_lex (C := fun w' => ∃ x : Later w, w' = x.val) (md := .any) hB.1 ol 0 (Array.replicate ol.toArray.size false) a (by simp) (by simpa using hB.2) h
  simpa using this
end

theorem step_append_src {P : Program} (w : World) {ops : Array Oper} {o : Oper} {a : Act} {K : Act → World → Prop} {Q : Exit → Act → World → Prop} {E : Prop} (hgd : o.guard = none) (s x : Operand) (t : TypeId)
    (ho : o.op = .call { callee := .builtin .append, args := #[s, x], argTypes := #[t, t] })
    (base : Nat) (e : TypeId) (i : TypeInfo) (z : Value) (size bytes : Nat) (ht : P.underlying t = some (.slice e)) (hi : P.info? e = some i) (hz : i.zero = some z)
    (hsize : i.size = size) (hby : i.bytes = bytes) (hzs : z.cells.size = size) (hsz : 0 < size)
    (v : Value) (n : Nat) (xs : List Value) (hs : a.eval s = v) (hown : w.ownsRow base e size v n xs)
    (A : Option Addr) (m c : Nat) (news : List Value) (hx : a.eval x = .slice A m c) (hr : Src w A m size news) (h1 : ∀ u ∈ news, u.oneCell' = true)
    (h63 : n + m ≤ maxLen) (hbytes : (n + m) * bytes ≤ 140737488355328) (hbase : base ≤ w.heap.size)
    (h : ∀ A' c' w', w'.ownsRow base e size (.slice A' (n + m) c') (n + m) (xs ++ news) → w.grownBy w' v.ownBlock → ((Value.slice A' (n + m) c').ownBlock = v.ownBlock ∨ (Value.slice A' (n + m) c').ownBlock = some w.heap.size) → K (a.put o.dst (.slice A' (n + m) c')) w') :
    if Region.wanted o (yielded ops a.tmps) = true then Oper.wp P o a w K Q else E := by
  have hw : Region.wanted o (yielded ops a.tmps) = true := by simp [Region.wanted, hgd]
  rw [if_pos hw]
  refine wp_append_src w s x t ho base e i z size bytes ht hi hz hsize hby hzs hsz v n xs hs hown A m c news hx hr h1 h63 hbytes hbase fun v' w' h2 h3 h4 => ?_
  obtain ⟨A', c', rfl⟩ := own_form h2
  exact h A' c' w' h2 h3 h4
theorem wpListIn_append_src {P : Program} (w : World) {n l : Nat} {ops : Array Oper} {rest : List Oper} {o : Oper} {a : Act} {Q : Exit → Act → World → Prop} (hgd : o.guard = none) (s x : Operand) (t : TypeId)
    (ho : o.op = .call { callee := .builtin .append, args := #[s, x], argTypes := #[t, t] })
    (base : Nat) (e : TypeId) (i : TypeInfo) (z : Value) (size bytes : Nat) (ht : P.underlying t = some (.slice e)) (hi : P.info? e = some i) (hz : i.zero = some z)
    (hsize : i.size = size) (hby : i.bytes = bytes) (hzs : z.cells.size = size) (hsz : 0 < size)
    (v : Value) (k : Nat) (xs : List Value) (hs : a.eval s = v) (hown : w.ownsRow base e size v k xs)
    (A : Option Addr) (m c : Nat) (news : List Value) (hx : a.eval x = .slice A m c) (hr : Src w A m size news) (h1 : ∀ u ∈ news, u.oneCell' = true)
    (h63 : k + m ≤ maxLen) (hbytes : (k + m) * bytes ≤ 140737488355328) (hbase : base ≤ w.heap.size)
    (h : ∀ A' c' w', w'.ownsRow base e size (.slice A' (k + m) c') (k + m) (xs ++ news) → w.grownBy w' v.ownBlock → ((Value.slice A' (k + m) c').ownBlock = v.ownBlock ∨ (Value.slice A' (k + m) c').ownBlock = some w.heap.size) →
      wpListIn (Fence.wide.inRound l) n P ops Q rest (a.put o.dst (.slice A' (k + m) c')) w') : wpListIn (Fence.wide.inRound l) n P ops Q (o :: rest) a w := by
  refine wpListIn_plain hgd fun K hK => Oper.wp_inRound (by simp [noDefer, ho]) ?_
  refine wp_append_src w s x t ho base e i z size bytes ht hi hz hsize hby hzs hsz v k xs hs hown A m c news hx hr h1 h63 hbytes hbase fun v' w' h2 h3 h4 => ?_
  obtain ⟨A', c', rfl⟩ := own_form h2
  exact hK _ _ (h A' c' w' h2 h3 h4)


/-! ### An iterator that turns cells of its own -/
/-- Only cells of these types are turned, and none that lay below B. -/
structure Turns (B : Nat) (T : TypeId → Prop) (W W' : World) : Prop where
  os : W'.os = W.os
  tape : W'.tape = W.tape
  output : W'.output = W.output
  size : W.heap.size ≤ W'.heap.size
  same : ∀ (k : Nat) (o : Obj), W.heap[k]? = some o → (k < B ∨ ∀ cur t fr, o = .cells cur t fr → ¬ T t) → W'.heap[k]? = some o
section
variable {B : Nat} {T : TypeId → Prop} {X Y Z : World}
theorem Turns.refl (W : World) : Turns B T W W := ⟨rfl, rfl, rfl, Nat.le_refl _, fun _ _ h _ => h⟩
theorem Turns.trans (h : Turns B T X Y) (k : Turns B T Y Z) : Turns B T X Z :=
  ⟨k.os.trans h.os, k.tape.trans h.tape, k.output.trans h.output, Nat.le_trans h.size k.size, fun i o hi ho => k.same i o (h.same i o hi ho) ho⟩
theorem Turns.of_below (h : Below X.heap.size X Y) : Turns B T X Y :=
  ⟨h.os, h.tape, h.output, h.size, fun k o hk _ => (h.block k (Array.getElem?_eq_some_iff.1 hk).1).trans hk⟩
theorem Turns.low (h : Turns B T X Y) {A : Nat} (hA : A ≤ B) : Turns A T X Y := ⟨h.os, h.tape, h.output, h.size, fun k o hk ho => h.same k o hk (ho.imp (fun h => by omega) id)⟩
theorem Turns.drew (h : Turns B T X Y) : Turns B T X Y.drew := ⟨h.os, h.tape, h.output, h.size, h.same⟩
theorem Turns.drewN (h : Turns B T X Y) (n : Nat) : Turns B T X (Y.drewN n) := ⟨h.os, h.tape, h.output, h.size, h.same⟩
theorem Turns.alloc (h : Turns B T X Y) (o : Obj) : Turns B T X (Y.alloc o) := h.trans (Turns.of_below ((Below.refl _ _).alloc (Nat.le_refl _) _))
theorem Turns.grown {g : Nat} {cur : Array Value} {t : TypeId} {fr : Nat × Nat} (hg : X.grownBy Y (some g)) (hB : B ≤ g) (hc : X.heap[g]? = some (.cells cur t fr)) (ht : T t) : Turns B T X Y :=
  ⟨hg.os, hg.tape, hg.output, hg.size, fun k o hk ho => by
    by_cases e : k = g
    · subst e
      rw [hc] at hk
      cases hk
      rcases ho with h | h
      · omega
      · exact absurd ht (h _ _ _ rfl)
    · exact (hg.block k (Array.getElem?_eq_some_iff.1 hk).1 (fun h => by injection h with h; exact e h)).trans hk⟩
theorem Turns.set {g : Nat} {cur : Array Value} {t : TypeId} {fr : Nat × Nat} (i : Nat) (v : Value) (hB : B ≤ g) (hc : X.heap[g]? = some (.cells cur t fr)) (ht : T t) : Turns B T X (X.setCell ⟨g, i, none⟩ v) := by
  refine Turns.grown (g := g) ⟨rfl, rfl, rfl, by simp [World.setCell], fun k hk hne => ?_⟩ hB hc ht
  exact heap_setCell_other X g i v (fun e => hne (by rw [e]))
theorem Turns.blk (h : Turns B T X Y) {k : Nat} {cur : Array Value} {t : TypeId} {fr : Nat × Nat} (hk : X.heap[k]? = some (.cells cur t fr)) (ho : k < B ∨ ¬ T t) : Y.heap[k]? = some (.cells cur t fr) :=
  h.same k _ hk (ho.imp id (fun h _ _ _ e => by cases e; exact h))
theorem Turns.cell_low (h : Turns B T X Y) {p : Addr} {v : Value} (hp : p.block < B) (hc : X.cell? p = some v) : Y.cell? p = some v := by
  have hlt := World.block_lt_of_cell? _ _ hc
  obtain ⟨o, ho⟩ : ∃ o, X.heap[p.block]? = some o := ⟨_, Array.getElem?_eq_getElem hlt⟩
  rw [← hc]
  exact World.cell?_of_block ((h.same _ _ ho (.inl hp)).trans ho.symm)
theorem Turns.below (h : Turns B T X Y) (hB : B ≤ X.heap.size) : Below B X Y :=
  ⟨h.os, h.tape, h.output, h.size, fun k hk => by
    obtain ⟨o, ho⟩ : ∃ o, X.heap[k]? = some o := ⟨_, Array.getElem?_eq_getElem (by omega)⟩
    exact (h.same k o ho (.inl hk)).trans ho.symm⟩
end
/-- **A range over such an iterator, whose rounds all go on.** -/
theorem wpIn_rangeFunc_T {α : Type} {F : Fence} {n : Nat} {P : Program} {g : Operand} {ps : Array Tmp} {assign body : Code} {Q : Exit → Act → World → Prop} {a : Act} {w : World}
    (hro : F.round = none) (h1 : 1 ≤ n) {gf : Nat} {lb : Array Value} (hg : a.eval g = .func (.func gf) #[] lb) (hFg : F.fn gf) (eg : ∀ args w, (callFunc gf args).run P w = .ok (.enter gf args) w)
    {encs : α → Array Value} (hps : ∀ x, (encs x).size = ps.size) (T : TypeId → Prop) (G : α → World → Prop) (S : List α → Prop) (Kp : World → World → Prop)
    (hseq : ∀ (l : Nat) (J : List α → World → Prop) (W : World), Below w.heap.size w W → (∀ s A B, J s A → Turns W.heap.size T A B → J s B) →
      (∀ pre x W1, J pre W1 → G x W1 → S (pre ++ [x]) → YieldAt F (n - 1 - 1) P l (encs x) W1 fun e W' => e = .returned (.bool true) ∧ J (pre ++ [x]) W' ∧ Kp W1 W') →
      J [] W → CallsIn F (n - 1) P gf (#[.func (.yield l) #[] #[]] ++ lb) W fun e W' => (∃ v, e = .returned v) ∧ ∃ xs, J xs W' ∧ S xs ∧ ∀ x, ¬ S (xs ++ [x]))
    (hKt : ∀ {A B C : World}, Kp A B → Kp B C → Kp A C) (hKb : ∀ (W : World) (l : Nat) (o o' : Obj), w.heap.size ≤ l → W.heap[l]? = some o → o.isCells = false → Kp W (W.putObj l o'))
    (I : List α → World → Prop) (hI : ∀ s A B, I s A → Turns w.heap.size T A B → I s B) (hIp : ∀ s A l o o', I s A → w.heap.size ≤ l → A.heap[l]? = some o → o.isCells = false → I s (A.putObj l o')) (h0 : I [] w)
    (Ax : α → Act → World → Prop) (hAp : ∀ x a' A l o o', Ax x a' A → w.heap.size ≤ l → A.heap[l]? = some o → o.isCells = false → Ax x a' (A.putObj l o'))
    (hassign : ∀ (l : Nat) (pre : List α) (x : α) (W : World) (K : Act → World → Prop), I pre W → G x W → S (pre ++ [x]) → (∀ a' W', KeepsFrom w.heap.size W W' → Kp W W' → I pre W' → Ax x a' W' → K a' W') →
      assign.wpIn (F.inRound l) (n - 1 - 1) P (Exit.then K (fun _ _ _ => False)) { tmps := (ps.zip (encs x)).foldl (fun t (p, v) => t.setIfInBounds p v) a.tmps, defers := [] } W)
    (hbody : ∀ (l : Nat) (pre : List α) (x : α) (a' : Act) (W : World), w.heap.size ≤ l → I pre W → Ax x a' W → S (pre ++ [x]) → body.wpIn (F.inRound l) (n - 1 - 1) P (fun e _ W' => e = .normal ∧ KeepsFrom w.heap.size W W' ∧ Kp W W' ∧ I (pre ++ [x]) W') a' W)
    (hdone : ∀ (D : Nat) (xs : List α) (W : World), w.heap.size ≤ D → S xs → (∀ x, ¬ S (xs ++ [x])) → I xs W → W.heap[D]? = some (.deferred (some [])) → Q .normal { a with defers := { target := .collected D, args := #[] } :: a.defers } W) :
    (Code.rangeFunc g ps assign body).wpIn F n P Q a w := by
  refine wpIn_rangeFunc fun fn hfn => ?_
  rw [hro]
  let rec0 : LoopState → Option Code → Loop := fun st pe => { state := st, pending := pe, fn, tmps := a.tmps, params := ps, assign, body, defers := w.heap.size }
  obtain ⟨rc, hrc⟩ : ∃ rc : LoopState → Option Code → Loop, rc = rec0 := ⟨_, rfl⟩
  obtain ⟨D, hD⟩ : ∃ D, w.heap.size = D := ⟨_, rfl⟩
  obtain ⟨V, hV⟩ : ∃ V, (w.alloc (.deferred (some []))).alloc (.loop (rc .ready none)) = V := ⟨_, rfl⟩
  have hVL : V.heap[D + 1]? = some (.loop (rc .ready none)) := by
    rw [← hV, ← hD]
    have h := World.alloc_heap_new (w.alloc (.deferred (some []))) (.loop (rc .ready none))
    rwa [World.size_alloc] at h
  have hVD : V.heap[D]? = some (.deferred (some [])) := by
    rw [← hV, ← hD]
    exact (Below.heap_alloc _ _ _ (by simp)).trans (World.alloc_heap_new w _)
  have hbV : Below w.heap.size w V := by
    rw [← hV]
    exact ((Below.refl _ w).alloc (Nat.le_refl _) _).alloc (by simp) _
  have hIV : I [] V := hI _ _ _ h0 (Turns.of_below hbV)
  have hsV : D + 1 < V.heap.size := (Array.getElem?_eq_some_iff.1 hVL).1
  refine ⟨D + 1, [{ target := .collected D, args := #[] }], V, { target := .fn (.func gf) lb, args := #[.func (.yield (D + 1)) #[] #[]] }, V, gf, #[.func (.yield (D + 1)) #[] #[]] ++ lb, V, ?_, ?_, ?_, ?_, fun _ => h1, ?_⟩
  · rw [← hV, hrc, ← hD]
    exact run_enterLoop_outer _ _ _ _ _
  · simp only [resolve, hg]
    simp [go_sem]
  · intro f' hf'
    simp [Target.leads] at hf'
    subst hf'
    exact hFg
  · simp [invoke, go_sem, eg]
  · refine (hseq (D + 1) (fun pre W => I pre W ∧ W.heap[D + 1]? = some (.loop (rc .ready none)) ∧ W.heap[D]? = some (.deferred (some []))) V hbV (fun s A B hs ht => ?_) (fun pre x W hJ hGx hSx => ?_) ⟨hIV, hVL, hVD⟩).mono ?_
    · exact ⟨hI _ _ _ hs.1 (ht.low (by omega)), ht.same _ _ hs.2.1 (.inr fun _ _ _ e => by cases e), ht.same _ _ hs.2.2 (.inr fun _ _ _ e => by cases e)⟩
    · obtain ⟨hi, hl, hd⟩ := hJ
      have hy := run_yield (P := P) (args := encs x) hl (by rw [hrc]; exact hps x)
      rw [hrc] at hy
      refine ⟨fn, _, assign, body, hy, roundIn_of_wpIn hfn (hassign _ pre x W _ hi hGx hSx fun a' Wa hka hpa hia hax => ?_)⟩
      have hl1 := hka.same _ _ (by omega) hl rfl
      have hd1 := hka.same _ _ (by omega) hd rfl
      refine ⟨_, run_beginRound hl1 (by rw [hrc]), ?_⟩
      have hlt : D + 1 < Wa.heap.size := (Array.getElem?_eq_some_iff.1 hl1).1
      obtain ⟨Wb, hWb⟩ : ∃ Wb, Wa.putObj (D + 1) (.loop { rc .ready none with state := .busy }) = Wb := ⟨_, rfl⟩
      have hl2 : Wb.heap[D + 1]? = some (.loop { rc .ready none with state := .busy }) := by rw [← hWb]; exact World.putObj_heap_same hlt
      have hd2 : Wb.heap[D]? = some (.deferred (some [])) := by rw [← hWb]; exact (World.putObj_heap_other (by omega)).trans hd1
      have hp2 : Kp Wa Wb := by rw [← hWb]; exact hKb _ _ _ _ (by omega) hl1 rfl
      have hi2 : I pre Wb := by rw [← hWb]; exact hIp _ _ _ _ _ hia (by omega) hl1 rfl
      have hx2 : Ax x a' Wb := by rw [← hWb]; exact hAp _ _ _ _ _ _ hax (by omega) hl1 rfl
      rw [hWb]
      refine wpIn_mono (hbody _ pre x a' Wb (by omega) hi2 hx2 hSx) ?_
      rintro e a3 W3 ⟨rfl, hk3, hp3, hi3⟩
      have hl3 := hk3.same _ _ (by omega) hl2 rfl
      have hd3 := hk3.same _ _ (by omega) hd2 rfl
      have hend := run_endRound (P := P) none hl3
      refine ⟨_, _, hend, rfl, ⟨hIp _ _ _ _ _ hi3 (by omega) hl3 rfl, ?_, ?_⟩, hKt hpa (hKt (hKt hp2 hp3) (hKb _ _ _ _ (by omega) hl3 rfl))⟩
      · rw [hrc]
        exact World.putObj_heap_same (Array.getElem?_eq_some_iff.1 hl3).1
      · exact (World.putObj_heap_other (by omega)).trans hd3
    · rintro e W2 ⟨⟨v, rfl⟩, xs, ⟨hi, hl, hd⟩, hS, hS2⟩
      have hend := run_endLoop (P := P) hl (by rw [hrc]; simp [rec0])
      have hpe : (rc .ready none).pending = none := by rw [hrc]
      rw [hpe] at hend
      refine ⟨none, _, hend, ?_⟩
      refine hdone D xs _ (by omega) hS hS2 (hIp _ _ _ _ _ hi (by omega) hl rfl) ((World.putObj_heap_other (by omega)).trans hd)
end Go.Proofs.YtckgapeednokjaaGreat
