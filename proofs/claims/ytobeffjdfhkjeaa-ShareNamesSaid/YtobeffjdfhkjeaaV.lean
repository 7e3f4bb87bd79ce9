import Derived.Test.YtobeffjdfhkjeaaU
import Derived.DeepKeys4
import Derived.Maps.OwnOps
set_option linter.unusedVariables false
set_option linter.unusedSimpArgs false
namespace Go.Proofs.Ytobeffjdfhkjeaa
open Go Go.Proofs Go.RowKit Go.MapKept Go.ChangeMaps

/-! ### A set of arrays of five ints -/
theorem u116 : Try.prog.underlying 116 = some (.map 118 4) := by kernel_rfl
theorem u118 : Try.prog.underlying 118 = some (.array 5 3) := by kernel_rfl
theorem law118 : WideMaps.KeyLaw Try.prog 118 := deep_law (m := 2) (by decide) (by kernel_rfl) (by kernel_rfl) (by kernel_rfl)
theorem wf64 {a : Int} (h : -1000000000000 ≤ a ∧ a ≤ 1000000000000) : (Lit.int .i64 a).wf = true := by
  have e1 : IntKind.i64.min = -9223372036854775808 := by decide
  have e2 : IntKind.i64.max = 9223372036854775807 := by decide
  simp only [Lit.wf, e1, e2, Bool.and_eq_true, decide_eq_true_eq]
  omega
theorem lit3 {a : Int} (h : -1000000000000 ≤ a ∧ a ≤ 1000000000000) (n : Nat) : Try.prog.keyLits (n + 1) 3 [.int .i64 a] = some [.int .i64 a] := by
  simp [Program.keyLits, show Try.prog.underlying 3 = some (.int .i64) by kernel_rfl, wf64 h]

def key5 (a b c d e : Int) : Value := .agg #[.int .i64 a, .int .i64 b, .int .i64 c, .int .i64 d, .int .i64 e]

theorem key5_of {a b c d e : Int} (ha : -1000000000000 ≤ a ∧ a ≤ 1000000000000) (hb : -1000000000000 ≤ b ∧ b ≤ 1000000000000) (hc : -1000000000000 ≤ c ∧ c ≤ 1000000000000) (hd : -1000000000000 ≤ d ∧ d ≤ 1000000000000) (he : -1000000000000 ≤ e ∧ e ≤ 1000000000000) :
    ∃ l, keyOf Try.prog 118 (key5 a b c d e) = some l := by
  have h1 : Try.prog.keyType 118 = true := by kernel_rfl
  have h2 : Value.formed Try.prog 118 (key5 a b c d e) = true := by kernel_rfl
  have h3 : Try.prog.cellsOf 118 = 5 := by kernel_rfl
  have h4 : Try.prog.cellsOf 3 = 1 := by kernel_rfl
  have h5 : Try.prog.keyLits 168 118 (key5 a b c d e).cells.toList = some [.int .i64 a, .int .i64 b, .int .i64 c, .int .i64 d, .int .i64 e] := by
    have e0 : (key5 a b c d e).cells.toList = [.int .i64 a, .int .i64 b, .int .i64 c, .int .i64 d, .int .i64 e] := rfl
    rw [e0]
    show Try.prog.keyLits (166 + 1 + 1) 118 _ = _
    generalize hn : 166 + 1 = n
    unfold Program.keyLits
    rw [u118]
    subst hn
    have ja := lit3 ha 166
    have jb := lit3 hb 166
    have jc := lit3 hc 166
    have jd := lit3 hd 166
    have je := lit3 he 166
    simp only [h3, h4, List.length_cons, List.length_nil, Nat.reduceAdd, if_true, Nat.mul_one, List.range_succ, List.range_zero, List.nil_append, List.cons_append]
    simp only [List.mapM_cons, List.mapM_nil, List.drop_zero, List.drop_succ_cons, List.take_succ_cons, List.take_zero, ja, jb, jc, jd, je]
    rfl
  refine ⟨.string (keyBytes [.int .i64 a, .int .i64 b, .int .i64 c, .int .i64 d, .int .i64 e]), ?_⟩
  unfold keyOf
  rw [u118]
  simp only [h1, h2, Bool.and_self, if_true]
  rw [show Try.prog.types.size + 1 = 168 by kernel_rfl, h5]
  rfl

/-- Block b is a set whose members all meet S. -/
def SetAt (W : World) (b : Nat) (S : Value → Prop) : Prop :=
  ∃ es clock, W.heap[b]? = some (.map es clock) ∧ ∀ e ∈ es.toList, S e.key ∧ (∃ l, keyOf Try.prog 118 e.key = some l) ∧ e.val = .bool true

section
variable {W : World} {b : Nat} {S S' : Value → Prop}
theorem SetAt.lt (h : SetAt W b S) : b < W.heap.size := by
  obtain ⟨es, clock, hb, _⟩ := h
  exact (Array.getElem?_eq_some_iff.1 hb).1
theorem SetAt.kept {W' : World} (h : SetAt W b S) (hk : W'.heap[b]? = W.heap[b]?) : SetAt W' b S := by
  obtain ⟨es, clock, hb, hr⟩ := h
  exact ⟨es, clock, hk.trans hb, hr⟩
theorem SetAt.mono (h : SetAt W b S) (hS : ∀ v, S v → S' v) : SetAt W b S' := by
  obtain ⟨es, clock, hb, hr⟩ := h
  exact ⟨es, clock, hb, fun e he => ⟨hS _ (hr e he).1, (hr e he).2⟩⟩
theorem setAt_made (w : World) (S : Value → Prop) : SetAt (w.alloc (.map #[] 0)) w.heap.size S := ⟨#[], 0, World.alloc_heap_new _ _, by simp⟩

theorem SetAt.look (h : SetAt W b S) {key : Value} {l : Lit} (hk : keyOf Try.prog 118 key = some l) : ∃ r : Bool, (Instr.lookup 116 (.map (some b)) key false).run Try.prog W = .ok (.bool r) W ∧ (r = true → S key) := by
  obtain ⟨es, clock, hb, hr⟩ := h
  have hz : (zeroValue 4).run Try.prog W = .ok (.bool false) W := Try.zeroValue4 W
  have hc := law118.check W es.isEmpty hk
  rcases law118.find W hk es.toList (fun e he => (hr e he).2.1) with ⟨h1, h2⟩ | ⟨j, e, h1, h2, h3⟩
  · refine ⟨false, ?_, fun e => by cases e⟩
    simp [Instr.lookup, u116, hb, getObj, Sem.run, Result.andThen, hc, h1, hz]
  · have he := List.mem_of_getElem? h2
    refine ⟨true, ?_, fun _ => h3 ▸ (hr e he).1⟩
    simp [Instr.lookup, u116, hb, getObj, Sem.run, Result.andThen, hc, h1, (hr e he).2.2]

theorem SetAt.store (h : SetAt W b S) {key : Value} {l : Lit} (hk : keyOf Try.prog 118 key = some l) : ∃ W', (Instr.mapUpdate 116 (.map (some b)) key (.bool true)).run Try.prog W = .ok () W' ∧ SetAt W' b (fun v => S v ∨ v = key) ∧ W.grownBy W' (some b) := by
  obtain ⟨es, clock, hb, hr⟩ := h
  have hc := law118.check W false hk
  have hg : ∀ es' clock', W.grownBy (setBlock W b (.map es' clock')) (some b) := fun es' clock' =>
    ⟨rfl, rfl, rfl, by simp [setBlock], fun i _ hi => heap_setBlock_other hb _ (fun e => hi (by rw [e]))⟩
  rcases law118.find W hk es.toList (fun e he => (hr e he).2.1) with ⟨h1, h2⟩ | ⟨j, e, h1, h2, h3⟩
  · refine ⟨setBlock W b (.map (es.push ⟨key, .bool true, clock⟩) (clock + 1)), ?_, ⟨_, _, heap_setBlock_same hb _, fun e he => ?_⟩, hg _ _⟩
    · simp [Instr.mapUpdate, run_underlying u116, MapKept.run_getObj_map hb, hc, h1, MapKept.run_setObj_map _ hb, Result.andThen, setBlock]
    · simp only [Array.toList_push, List.mem_append, List.mem_singleton] at he
      rcases he with he | rfl
      · exact ⟨.inl (hr e he).1, (hr e he).2⟩
      · exact ⟨.inr rfl, ⟨l, hk⟩, rfl⟩
  · have hj := (List.getElem?_eq_some_iff.1 h2).1
    have hes : es[j]? = some e := by simpa using h2
    have hst := law118.stays W hk
    refine ⟨setBlock W b (.map (es.modify j fun x => { x with key := key, val := .bool true }) clock), ?_, ⟨_, _, heap_setBlock_same hb _, fun x hx => ?_⟩, hg _ _⟩
    · simp [Instr.mapUpdate, run_underlying u116, MapKept.run_getObj_map hb, hc, h1, hes, h3, hst, MapKept.run_setObj_map _ hb, Result.andThen, setBlock]
    · obtain ⟨i, hi, rfl⟩ := List.getElem_of_mem hx
      simp only [Array.getElem_toList, Array.getElem_modify]
      split
      · exact ⟨.inr rfl, ⟨l, hk⟩, rfl⟩
      · have hm : es[i]'(by simpa using hi) ∈ es.toList := by simp
        exact ⟨.inl (hr _ hm).1, (hr _ hm).2⟩
end

theorem wpList_look5 {w : World} {ops : Array Oper} {rest : List Oper} {o : Oper} {a : Act} {Q : Exit → Act → World → Prop} (hg : o.guard = none) (m x : Operand) (hop : o.op = Op.lookup 116 m x false) (b : Nat) (S : Value → Prop)
    (hm : a.eval m = .map (some b)) (hs : SetAt w b S) (key : Value) (hx : a.eval x = key) (hk : ∃ l, keyOf Try.prog 118 key = some l)
    (hK : ∀ r : Bool, (r = true → S key) → wpList Try.prog ops Q rest (a.put o.dst (.bool r)) w) : wpList Try.prog ops Q (o :: rest) a w := by
  refine wpList_plain hg fun K hK' => ?_
  obtain ⟨l, hk⟩ := hk
  obtain ⟨r, hrun, hr⟩ := hs.look hk
  unfold Oper.wp
  simp [execOp, hop, hm, hx, hrun, Result.andThen]
  exact hK' _ _ (hK r hr)

theorem wpList_store5 {w : World} {ops : Array Oper} {rest : List Oper} {o : Oper} {a : Act} {Q : Exit → Act → World → Prop} (hg : o.guard = none) (m x v : Operand) (hop : o.op = Op.mapUpdate 116 m x v) (b : Nat) (S : Value → Prop)
    (hm : a.eval m = .map (some b)) (hs : SetAt w b S) (key : Value) (hx : a.eval x = key) (hv : a.eval v = .bool true) (hk : ∃ l, keyOf Try.prog 118 key = some l)
    (hK : ∀ w', SetAt w' b (fun v => S v ∨ v = key) → w.grownBy w' (some b) → wpList Try.prog ops Q rest (a.put o.dst undef) w') : wpList Try.prog ops Q (o :: rest) a w := by
  refine wpList_plain hg fun K hK' => ?_
  obtain ⟨l, hk⟩ := hk
  obtain ⟨w', hrun, h1, h2⟩ := hs.store hk
  unfold Oper.wp
  simp [execOp, hop, hm, hx, hv, hrun, Result.andThen]
  exact hK' _ _ (hK w' h1 h2)

/-- The array that holds x at place c. -/
def keyV (c : Nat) (x : Int) : Value := key5 (if c = 0 then x else 0) (if c = 1 then x else 0) (if c = 2 then x else 0) (if c = 3 then x else 0) (if c = 4 then x else 0)

theorem keyV_inj {c c' : Nat} {x x' : Int} (hc : c < 5) (hc' : c' < 5) (h : keyV c x = keyV c' x') : x = x' := by
  simp only [keyV, key5, Value.agg.injEq, Array.mk.injEq, List.cons.injEq, Value.int.injEq, true_and, and_true] at h
  rcases (by omega : c = 0 ∨ c = 1 ∨ c = 2 ∨ c = 3 ∨ c = 4) with rfl | rfl | rfl | rfl | rfl <;>
  rcases (by omega : c' = 0 ∨ c' = 1 ∨ c' = 2 ∨ c' = 3 ∨ c' = 4) with rfl | rfl | rfl | rfl | rfl <;> simp at h <;> omega

theorem keyV_of {c : Nat} {x : Int} (hx : -1000000000000 ≤ x ∧ x ≤ 1000000000000) : ∃ l, keyOf Try.prog 118 (keyV c x) = some l :=
  key5_of (by split <;> omega) (by split <;> omega) (by split <;> omega) (by split <;> omega) (by split <;> omega)
end Go.Proofs.Ytobeffjdfhkjeaa
