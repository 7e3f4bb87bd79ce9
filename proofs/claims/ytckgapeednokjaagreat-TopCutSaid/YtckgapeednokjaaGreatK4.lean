import Derived.Test.YtckgapeednokjaaGreatK3
import Derived.Maps.OwnSet
import Derived.Maps.Ext
import Derived.Deep.CutRange
import Derived.Deep.Cut
import Derived.Test.YtckgapeednokjaaGreatK1
import Derived.Test.YtckgapeednokjaaGreatK6
set_option linter.unusedVariables false
set_option linter.unusedSimpArgs false
namespace Go.Proofs.YtckgapeednokjaaGreat
open Go Go.Proofs Go.RowKit
open Go.ChangeMaps Go.MapKept
open Go.Maps (Keyed has)

/-! ### A map of duties, as a partial function -/
def heldE : Value → Option (DataW Value × List MemPlace) := fun v => some (.held v, [])
theorem dutyKey : Keyed Tryz.prog 141 := Maps.int_keyed (q := .u16) (by kernel_rfl)
theorem key_wf {x : Nat} (h : x < 65536) : (Lit.int .u16 (x : Int)).wf = true := by
  have h1 : IntKind.u16.min = 0 := rfl
  have h2 : IntKind.u16.max = 65535 := rfl
  show (decide (IntKind.u16.min ≤ (x : Int)) && decide ((x : Int) ≤ IntKind.u16.max)) = true
  rw [h1, h2, Bool.and_eq_true, decide_eq_true_eq, decide_eq_true_eq]
  omega
theorem keyOf_duty {x : Nat} (h : x < 65536) : keyOf Tryz.prog 141 (.int .u16 (x : Int)) = some (.int .u16 (x : Int)) :=
  Maps.keyOf_int_mk (q := .u16) (by kernel_rfl) (key_wf h)
/-- How many keys there are. -/
def cntF (F : Nat → Option Value) : Nat → Nat
  | 0 => 0
  | n + 1 => cntF F n + if (F n).isSome then 1 else 0
def updF (F : Nat → Option Value) (x : Nat) (v : Value) : Nat → Option Value := fun y => if y = x then some v else F y
theorem updF_same (F : Nat → Option Value) (x : Nat) (v : Value) : updF F x v x = some v := if_pos rfl
theorem updF_other {F : Nat → Option Value} {x y : Nat} {v : Value} (h : y ≠ x) : updF F x v y = F y := if_neg h
theorem cntF_le (F : Nat → Option Value) : ∀ n, cntF F n ≤ n
  | 0 => Nat.le_refl _
  | n + 1 => by
    have := cntF_le F n
    unfold cntF
    split <;> omega
theorem cntF_upd {F : Nat → Option Value} {x : Nat} {v : Value} (h : F x = none) : ∀ n : Nat, cntF (updF F x v) n = cntF F n + if x < n then 1 else 0
  | 0 => by simp [cntF]
  | n + 1 => by
    unfold cntF
    rw [cntF_upd h n]
    by_cases e : n = x
    · subst e
      rw [updF_same, h]
      simp
    · rw [updF_other e]
      by_cases h1 : x < n
      · have h2 : x < n + 1 := by omega
        rw [if_pos h1, if_pos h2]; omega
      · have h2 : ¬ x < n + 1 := by omega
        rw [if_neg h1, if_neg h2]; omega
/-- Block b is a map that holds just F. -/
def MapIs (w : World) (b : Nat) (F : Nat → Option Value) : Prop :=
  ∃ D n, w.ownsMap Tryz.prog 141 heldE b n D ∧ n ≤ cntF F 65536 ∧ ∀ x : Nat, x < 65536 → has D (.int .u16 (x : Int)) = (F x).isSome ∧ ∀ z, D.atKey (.int .u16 (x : Int)) (.held z) = .held ((F x).getD z)
section
variable {w w' : World} {b : Nat} {F : Nat → Option Value}
theorem mapIs_made (w : World) : MapIs (w.alloc (.map #[] 0)) w.heap.size fun _ => none :=
  ⟨.map [], 0, World.ownsMap_made _ _ _ _, Nat.zero_le _, fun x hx => ⟨rfl, fun z => rfl⟩⟩
theorem MapIs.lt (h : MapIs w b F) : b < w.heap.size := by
  obtain ⟨D, n, h, _⟩ := h
  exact h.lt
theorem MapIs.kept (h : MapIs w b F) (e : w'.heap[b]? = w.heap[b]?) : MapIs w' b F := by
  obtain ⟨D, n, ⟨es, clock, hb, r⟩, h2⟩ := h
  exact ⟨D, n, ⟨es, clock, e.trans hb, r⟩, h2⟩
theorem MapIs.notCells (h : MapIs w b F) {c : Nat} {xs : Array Value} {t : TypeId} {fr : Nat × Nat} (hc : w.heap[c]? = some (.cells xs t fr)) : c ≠ b := by
  rintro rfl
  obtain ⟨D, n, ⟨es, clock, hb, r⟩, h2⟩ := h
  rw [hc] at hb
  cases hb
theorem MapIs.congr {G : Nat → Option Value} (h : MapIs w b F) (e : ∀ x : Nat, x < 65536 → F x = G x) (hc : cntF F 65536 ≤ cntF G 65536) : MapIs w b G := by
  obtain ⟨D, n, h1, h2, h3⟩ := h
  exact ⟨D, n, h1, Nat.le_trans h2 hc, fun x hx => by rw [← e x hx]; exact h3 x hx⟩
theorem MapIs.look (h : MapIs w b F) {t e : TypeId} {z : Value} (ht : Tryz.prog.underlying t = some (.map 141 e)) (hz : (zeroValue e).run Tryz.prog w = .ok z w) {x : Nat} (hx : x < 65536) :
    (Instr.lookup t (.map (some b)) (.int .u16 (x : Int)) false).run Tryz.prog w = .ok ((F x).getD z) w ∧ (Instr.lookup t (.map (some b)) (.int .u16 (x : Int)) true).run Tryz.prog w = .ok (.tuple #[(F x).getD z, .bool (F x).isSome]) w := by
  obtain ⟨D, n, h1, _, h3⟩ := h
  obtain ⟨k1, k2⟩ := h3 x hx
  obtain ⟨v, ps, r1, r2⟩ := h1.lookup dutyKey ht hz (zd := .held z) (zp := []) rfl (keyOf_duty hx)
  obtain ⟨v', ps', r3, r4⟩ := h1.look_ok dutyKey ht hz (zd := .held z) (zp := []) rfl (keyOf_duty hx)
  rw [k2 z] at r2 r4
  rw [k1] at r3
  unfold heldE at r2 r4
  cases r2
  cases r4
  exact ⟨r1, r3⟩
theorem MapIs.upd (h : MapIs w b F) {t e : TypeId} (ht : Tryz.prog.underlying t = some (.map 141 e)) {x : Nat} (hx : x < 65536) (h0 : F x = none) (v : Value) :
    ∃ w', (Instr.mapUpdate t (.map (some b)) (.int .u16 (x : Int)) v).run Tryz.prog w = .ok () w' ∧ MapIs w' b (updF F x v) ∧ w.grownBy w' (some b) := by
  obtain ⟨D, n, h1, h2, h3⟩ := h
  have hc := cntF_le F 65536
  obtain ⟨w', r1, r2, r3⟩ := h1.update dutyKey ht (by unfold maxLen; omega) (keyOf_duty hx) (d := .held v) (ps := []) (val := v) rfl
  refine ⟨w', r1, ⟨_, _, r2, by rw [cntF_upd h0, if_pos hx]; omega, fun y hy => ?_⟩, r3⟩
  by_cases e : y = x
  · subst e
    rw [updF_same]
    exact ⟨Maps.has_put_same h1.isMap (by trivial) _, fun z => Maps.atKey_put_same h1.isMap (by trivial) _ _⟩
  · rw [updF_other e]
    have hne : (Lit.int .u16 (y : Int)) ≠ Lit.int .u16 (x : Int) := fun h => by
      injection h with _ h
      omega
    rw [Maps.has_put_other hne]
    obtain ⟨k1, k2⟩ := h3 y hy
    exact ⟨k1, fun z => (Maps.atKey_put_other hne _ _).trans (k2 z)⟩
end
section
variable {w : World} {b : Nat} {F : Nat → Option Value} {ops : Array Oper} {rest : List Oper} {o : Oper} {a : Act} {Q : Exit → Act → World → Prop}
theorem wpList_look_is {t e : TypeId} (hg : o.guard = none) (m k : Operand) (hop : o.op = Op.lookup t m k false) (ht : Tryz.prog.underlying t = some (.map 141 e)) {z : Value} (hz : (zeroValue e).run Tryz.prog w = .ok z w) (x : Nat)
    (hm : a.eval m = .map (some b)) (hx : a.eval k = .int .u16 (x : Int)) (h : MapIs w b F) (hlt : x < 65536) (hK : wpList Tryz.prog ops Q rest (a.put o.dst ((F x).getD z)) w) : wpList Tryz.prog ops Q (o :: rest) a w := by
  refine wpList_plain hg fun K' hK' => ?_
  obtain ⟨hrun, _⟩ := h.look ht hz hlt
  unfold Oper.wp
  simp [execOp, hop, hm, hx, hrun, Result.andThen]
  exact hK' _ _ hK
theorem wpList_look_ok {t e : TypeId} (hg : o.guard = none) (m k : Operand) (hop : o.op = Op.lookup t m k true) (ht : Tryz.prog.underlying t = some (.map 141 e)) {z : Value} (hz : (zeroValue e).run Tryz.prog w = .ok z w) (x : Nat)
    (hm : a.eval m = .map (some b)) (hx : a.eval k = .int .u16 (x : Int)) (h : MapIs w b F) (hlt : x < 65536) (hK : wpList Tryz.prog ops Q rest (a.put o.dst (.tuple #[(F x).getD z, .bool (F x).isSome])) w) : wpList Tryz.prog ops Q (o :: rest) a w := by
  refine wpList_plain hg fun K' hK' => ?_
  obtain ⟨_, hrun⟩ := h.look ht hz hlt
  unfold Oper.wp
  simp [execOp, hop, hm, hx, hrun, Result.andThen]
  exact hK' _ _ hK
theorem wpList_upd_is {t e : TypeId} (hg : o.guard = none) (m k u : Operand) (hop : o.op = Op.mapUpdate t m k u) (ht : Tryz.prog.underlying t = some (.map 141 e)) (x : Nat) (v : Value)
    (hm : a.eval m = .map (some b)) (hx : a.eval k = .int .u16 (x : Int)) (hv : a.eval u = v) (h : MapIs w b F) (hlt : x < 65536) (h0 : F x = none)
    (hK : ∀ w', MapIs w' b (updF F x v) → w.grownBy w' (some b) → wpList Tryz.prog ops Q rest (a.put o.dst undef) w') : wpList Tryz.prog ops Q (o :: rest) a w := by
  refine wpList_plain hg fun K' hK' => ?_
  obtain ⟨w', hrun, r1, r2⟩ := h.upd ht hlt h0 v
  unfold Oper.wp
  simp [execOp, hop, hm, hx, hv, hrun, Result.andThen]
  exact hK' _ _ (hK w' r1 r2)
theorem wpList_insert_is {t e : TypeId} (hg : o.guard = none) (m k u : Operand) (hop : o.op = Op.insert t m k u) (ht : Tryz.prog.underlying t = some (.map 141 e)) (x : Nat) (v : Value)
    (hm : a.eval m = .map (some b)) (hx : a.eval k = .int .u16 (x : Int)) (hv : a.eval u = v) (h : MapIs w b F) (hlt : x < 65536) (h0 : F x = none)
    (hK : ∀ w', MapIs w' b (updF F x v) → w.grownBy w' (some b) → wpList Tryz.prog ops Q rest (a.put o.dst undef) w') : wpList Tryz.prog ops Q (o :: rest) a w := by
  refine wpList_plain hg fun K' hK' => ?_
  obtain ⟨w', hrun, r1, r2⟩ := h.upd ht hlt h0 v
  unfold Oper.wp
  simp [execOp, hop, hm, hx, hv, hrun, Result.andThen]
  exact hK' _ _ (hK w' r1 r2)
end
end Go.Proofs.YtckgapeednokjaaGreat
namespace Go.Proofs.YtckgapeednokjaaGreat
open Go Go.Proofs Go.RowKit

/-! ### Words of find -/
theorem less_any (a b c e : Int) (w : World) : Calls Tryz.prog 99 #[.agg #[.int .i64 a, .int .i64 b], .agg #[.int .i64 c, .int .i64 e]] w (Gives w (.bool (decide (a < c) || (decide (a = c) && decide (b < e))))) := by
  have hb : Below w.heap.size w ((w.alloc (.cells #[.int .i64 a, .int .i64 b] 144)).alloc (.cells #[.int .i64 c, .int .i64 e] 144)) := two_below w _ _
  by_cases h1 : a < c
  · have q1 : decide (a < c) = true := by simpa using h1
    rw [q1]
    go_enter Tryz.func99, Tryz.ntmps99
    go_wp2
    go_ret
    exact ⟨rfl, hb⟩
  · have q1 : decide (a < c) = false := by simpa using h1
    by_cases h2 : a = c
    · have q2 : (a == c) = true := by simpa using h2
      have q3 : decide (a = c) = true := by simpa using h2
      rw [q1, q3]
      clear h1 h2 q3
      go_enter Tryz.func99, Tryz.ntmps99
      go_wp2
      go_ret
      exact ⟨rfl, hb⟩
    · have q2 : (a == c) = false := by simpa using h2
      have q3 : decide (a = c) = false := by simpa using h2
      rw [q1, q3]
      go_enter Tryz.func99, Tryz.ntmps99
      go_wp2
      go_ret
      exact ⟨rfl, hb⟩
theorem low_all : ∀ l : Fin 1024, (l.val &&& (65536 - l.val) % 65536) = if l.val = 0 then 0 else 1 <<< lowB l.val := by decide +kernel
theorem low_num {l : Nat} (h0 : l ≠ 0) (h : l < 1024) : bits BinOp.and IntKind.u16 (l : Int) (IntKind.u16.wrap (-(l : Int))) = ((1 <<< lowB l : Nat) : Int) := by
  have e1 : IntKind.u16.wrap (-(l : Int)) = (((65536 - l) % 65536 : Nat) : Int) := by
    rw [wrap_u16]
    omega
  have := low_all ⟨l, h⟩
  simp only [if_neg h0] at this
  rw [e1, bits_and_u16 _ _ (by omega) (by omega), this]
theorem and_bit (x i : Nat) : x &&& 1 <<< i = if x.testBit i then 1 <<< i else 0 := by
  apply Nat.eq_of_testBit_eq
  intro j
  rw [Nat.testBit_and, bit_one]
  by_cases e : i = j
  · subst e
    cases h : x.testBit i <;> simp [bit_one]
  · have e1 : (1 <<< i).testBit j = false := by rw [bit_one]; simpa using e
    rw [decide_eq_false e, Bool.and_false]
    cases h : x.testBit i
    · simp
    · rw [if_pos rfl, e1]
theorem lowB_lt {l : Nat} (h0 : l ≠ 0) (h : l < 1024) : lowB l < 10 := by
  have h1 := lowB_bit h0 (by omega)
  refine Nat.not_le.1 fun hc => ?_
  have : l.testBit (lowB l) = false := Nat.testBit_lt_two_pow (Nat.lt_of_lt_of_le h (Nat.pow_le_pow_right (n := 2) (by omega) hc))
  rw [h1] at this
  cases this
theorem bit_lt {i : Nat} (h : i < 10) : 1 <<< i < 65536 ∧ 1 <<< i ≠ 0 := by
  rw [Nat.one_shiftLeft]
  have h1 := Nat.pow_le_pow_right (n := 2) (by omega) (by omega : i ≤ 10)
  have h2 := Nat.two_pow_pos i
  omega
theorem test_bit {x i : Nat} (hx : x < 65536) (hi : i < 10) : (bits BinOp.and IntKind.u16 (x : Int) ((1 <<< i : Nat) : Int) == 0) = !x.testBit i := by
  obtain ⟨h1, h2⟩ := bit_lt hi
  rw [bits_and_u16 _ _ hx h1, and_bit]
  cases h : x.testBit i with
  | true => rw [if_pos rfl]; simp only [Bool.not_true, beq_eq_false_iff_ne]; omega
  | false => rfl
theorem next_num {x l : Nat} (h0 : 0 < x) (hx : x < 65536) (hl : l < 65536) : bits BinOp.and IntKind.u16 (IntKind.u16.wrap ((x : Int) - 1)) (l : Int) = (((x - 1) &&& l : Nat) : Int) := by
  have e : IntKind.u16.wrap ((x : Int) - 1) = ((x - 1 : Nat) : Int) := by rw [wrap_u16]; omega
  rw [e, bits_and_u16 _ _ (by omega) hl]
/-- A call of a function value, whatever it does. -/
theorem wpList_callr {P : Program} {w : World} {ops : Array Oper} {rest : List Oper} {o : Oper} {a : Act} {Q : Exit → Act → World → Prop} {R : Ending → World → Prop} (x : Operand) (args : List Operand) (tys : Array TypeId) (hg : o.guard = none)
    (ho : o.op = .call { callee := .value x, args := args.toArray, argTypes := tys }) (f : Value) (hf : a.eval x = f) (az : List Value) (has : args.map a.eval = az)
    (hcall : CallsVal P f az.toArray w R) (hK : ∀ e w', R e w' → ∃ v, e = .returned v ∧ wpList P ops Q rest (a.put o.dst v) w') : wpList P ops Q (o :: rest) a w := by
  refine wpList_plain hg fun K hK' => ?_
  obtain ⟨g, az', hrun, hc⟩ := hcall
  unfold Oper.wp execOp
  simp only [ho, resolve, hf, List.map_toArray, has]
  simp only [Sem.run_bind] at hrun ⊢
  rw [hrun]
  simp only [Oper.upon_enter]
  refine hc.mono ?_
  intro e w' hr
  obtain ⟨v, rfl, hw⟩ := hK e w' hr
  exact hK' _ _ hw
theorem wp_region_pickA {P : Program} {Q : Exit → Act → World → Prop} {id : Nat} {a : Act} {w : World} {ol : List Oper} (fs : List Nat) (m : Nat) (kp : Nat → Bool) (S : World → Prop) (hm : P.follows .mixedOrders = true)
    (hB : (Region.noSelect ol.toArray && (frontPickB .any ol.toArray kp fs (Array.replicate ol.toArray.size false) && decide (fs.length + m = ol.length))) = true)
    (hQ : ∀ c a d v w, Q (.panic c) (a.put d v) w → Q (.panic c) a w) (hS : S w.drew)
    (h : Nonempty (Meets S) → wpQuiet P ol.toArray (fun w' => ∃ x : Meets S, w' = x.val) (fun a' => wpAnyF P .any ol.toArray Q S kp m (listAll fs (Array.replicate ol.toArray.size false)) a' w.drew) (pick ol fs) a) :
    (Code.region id ol.toArray true).wp P Q a w := by
  simp only [Bool.and_eq_true, decide_eq_true_eq] at hB
  obtain ⟨h1, h2, h3⟩ := hB
  refine wp_region_front kp S hm ?_
  have hq' := h ⟨⟨w.drew, hS⟩⟩
  have := wpAnyF_pick (P := P) (ops := ol.toArray) (Q := Q) (md := .any) (S := S) (kp := kp) h1 hQ m fs (Array.replicate ol.toArray.size false) a w.drew h2 hS (by simpa using hq')
  rw [h3] at this
  simpa using this

def bvV (b : BV) : Value := .agg #[.int .u16 (b.first : Int), .int .i64 b.n, .int .i64 b.pay, .bool b.can]
def S (d : DDay) (x : Nat) : BV := solve (legalX d) (payX d) x
def legF (d : DDay) (k : Nat) : Nat → Option Value := fun x => if 1 ≤ x ∧ x < k then some (.bool (legalX d x)) else none
def ptr (b : Nat) : Value := .pointer (some ⟨b, 0, none⟩)
/-- The closure that finds, with its variables. -/
structure FindAt (w0 w : World) (d : DDay) (P b1 b3 b4 b7 M L : Nat) (F : Nat → Option Value) : Prop where
  bel : Below w0.heap.size w0 w
  plan : PlanAt w0 P d
  c1 : w.heap[b1]? = some (.cells #[.pointer (some ⟨P, 0, none⟩)] 136 (0, 0))
  c3 : w.heap[b3]? = some (.cells #[.map (some M)] 138 (0, 0))
  c4 : w.heap[b4]? = some (.cells #[.map (some L)] 195 (0, 0))
  c7 : w.heap[b7]? = some (.cells #[.func (.func 97) #[] #[ptr b3, ptr b4, ptr b7, ptr b1]] 196 (0, 0))
  known : MapIs w M F
  legals : MapIs w L (legF d (2 ^ segN d.blocks))
  hM : w0.heap.size ≤ M
  ne : L ≠ M
  val : ∀ x v, F x = some v → v = bvV (S d x)
  zero : (F 0).isSome = true
  next : ∀ x, (F x).isSome = true → x ≠ 0 → (S d x).can = true → (F (x ^^^ (S d x).first)).isSome = true
theorem FindAt.turn {w0 w w' : World} {d : DDay} {P b1 b3 b4 b7 M L : Nat} {F F' : Nat → Option Value} (h : FindAt w0 w d P b1 b3 b4 b7 M L F) (hg : w.grownBy w' (some M)) (hk : MapIs w' M F')
    (val : ∀ x v, F' x = some v → v = bvV (S d x)) (zero : (F' 0).isSome = true) (next : ∀ x, (F' x).isSome = true → x ≠ 0 → (S d x).can = true → (F' (x ^^^ (S d x).first)).isSome = true) : FindAt w0 w' d P b1 b3 b4 b7 M L F' := by
  have hc : ∀ {c : Nat} {o : Obj}, w.heap[c]? = some o → c ≠ M → w'.heap[c]? = some o := fun {c o} he hn =>
    (hg.block c (Array.getElem?_eq_some_iff.1 he).1 (fun e => hn (by injection e))).trans he
  exact ⟨h.bel.trans ⟨hg.os, hg.tape, hg.output, hg.size, fun k hk' => hg.block k (by have := h.bel.size; omega) (fun e => by have := h.hM; injection e; omega)⟩, h.plan,
    hc h.c1 (h.known.notCells h.c1), hc h.c3 (h.known.notCells h.c3), hc h.c4 (h.known.notCells h.c4), hc h.c7 (h.known.notCells h.c7), hk,
    h.legals.kept (hg.block L h.legals.lt (fun e => h.ne (by injection e))), h.hM, h.ne, val, zero, next⟩
theorem FindAt.same {w0 w w' : World} {d : DDay} {P b1 b3 b4 b7 M L : Nat} {F : Nat → Option Value} (h : FindAt w0 w d P b1 b3 b4 b7 M L F) (hg : w.grownBy w' none) : FindAt w0 w' d P b1 b3 b4 b7 M L F :=
  h.turn ⟨hg.os, hg.tape, hg.output, hg.size, fun k hk _ => hg.block k hk (by simp)⟩ (h.known.kept (hg.block M h.known.lt (by simp))) h.val h.zero h.next
theorem grown_of_below {w w' : World} (h : Below w.heap.size w w') (r : Option Nat) : w.grownBy w' r := ⟨h.os, h.tape, h.output, h.size, fun k hk _ => h.block k hk⟩
def GivesFind (w0 : World) (d : DDay) (P b1 b3 b4 b7 M L left : Nat) (F : Nat → Option Value) (w : World) (e : Ending) (w' : World) : Prop :=
  ∃ F', e = .returned (bvV (S d left)) ∧ FindAt w0 w' d P b1 b3 b4 b7 M L F' ∧ w.grownBy w' (some M) ∧ (∀ x, (F x).isSome = true → F' x = F x) ∧ (∀ x, left < x → F' x = F x) ∧ (F' left).isSome = true
end Go.Proofs.YtckgapeednokjaaGreat
namespace Go.Proofs.YtckgapeednokjaaGreat
open Go Go.Proofs Go.RowKit

/-! ### find -/
theorem zeroBest (w : World) : (zeroValue 146).run Tryz.prog w = .ok (.agg #[.int .u16 0, .int .i64 0, .int .i64 0, .bool false]) w := by kernel_rfl
theorem zeroBool (w : World) : (zeroValue 4).run Tryz.prog w = .ok (.bool false) w := by kernel_rfl
theorem undMap : Tryz.prog.underlying 138 = some (.map 141 146) := by kernel_rfl
theorem undMapB : Tryz.prog.underlying 195 = some (.map 141 4) := by kernel_rfl
theorem find_val {w : World} {b1 b3 b4 b7 l : Nat} {R : Ending → World → Prop} (h : Calls Tryz.prog 97 #[.int .u16 (l : Int), ptr b3, ptr b4, ptr b7, ptr b1] w R) :
    CallsVal Tryz.prog (.func (.func 97) #[] #[ptr b3, ptr b4, ptr b7, ptr b1]) #[.int .u16 (l : Int)] w R :=
  ⟨97, #[.int .u16 (l : Int), ptr b3, ptr b4, ptr b7, ptr b1], by kernel_rfl, h⟩
theorem grown_set {w w' : World} {r : Option Nat} (h : w.grownBy w' r) {p : Addr} (hp : w.heap.size ≤ p.block) (u : Value) : w.grownBy (w'.setCell p u) r :=
  ⟨h.os, h.tape, h.output, by simpa [World.setCell] using h.size, fun k hk hr => (Below.heap_setCell _ _ _ _ (by omega)).trans (h.block k hk hr)⟩
theorem cellsAt4 {w : World} {o : Nat} {a b c e : Value} {t : TypeId} (h : w.heap[o]? = some (.cells #[a, b, c, e] t (0, 0))) :
    (w.cell? ⟨o, 0, none⟩ = some a ∧ w.cell? ⟨o, 1, none⟩ = some b ∧ w.cell? ⟨o, 2, none⟩ = some c ∧ w.cell? ⟨o, 3, none⟩ = some e) ∧ w.frozen? ⟨o, 0, none⟩ = false ∧ w.frozen? ⟨o, 1, none⟩ = false ∧ w.frozen? ⟨o, 2, none⟩ = false ∧ w.frozen? ⟨o, 3, none⟩ = false := by
  simp [World.cell?, World.frozen?, h]
theorem cellAt0 {w : World} {o : Nat} {a b : Value} {t : TypeId} (h : w.heap[o]? = some (.cells #[a, b] t (0, 0))) : w.cell? ⟨o, 0, none⟩ = some a := by simp [World.cell?, h]
theorem cellAt1 {w : World} {o : Nat} {a b : Value} {t : TypeId} (h : w.heap[o]? = some (.cells #[a, b] t (0, 0))) : w.cell? ⟨o, 1, none⟩ = some b := by simp [World.cell?, h]
theorem updF_some {F : Nat → Option Value} {x y : Nat} {v : Value} (h : (F y).isSome = true) : (updF F x v y).isSome = true := by
  unfold updF
  split
  · rfl
  · exact h
theorem spread_bd {d : DDay} (hd : DayOk d) (ps : List Pc) : spreadP d (loT d.blocks) (hiT d.blocks) ps ≤ 15000 := by
  have h1 := hd.law.off
  have h2 := hd.law.on
  unfold spreadP
  split
  · rename_i p q _ _
    have h3 := rel_any hd q.b q.to
    have h4 := rel_any hd p.b p.fr
    omega
  · omega
theorem payX_bd {d : DDay} (hd : DayOk d) (x : Nat) : 0 ≤ payX d x ∧ payX d x ≤ 20000 := by
  have h1 := hd.law.least
  have h2 := spread_bd hd (piecesL d (bitsL (segN d.blocks) x))
  show 0 ≤ max _ _ ∧ max _ _ ≤ 20000
  rw [Int.max_def]
  split <;> omega
def BdB (l : Nat) (b : BV) : Prop := (0 ≤ b.n ∧ b.n ≤ l) ∧ 0 ≤ b.pay ∧ b.pay ≤ 20000 * l
theorem step_bd {legal : Nat → Bool} {pay : Nat → Int} (hp : ∀ x, 0 ≤ pay x ∧ pay x ≤ 20000) {l : Nat} (ih : ∀ m, m < l → BdB m (solve legal pay m)) : ∀ (xs : List Nat) (b : BV), (∀ x ∈ xs, x ∈ subsD l) → BdB l b → BdB l (xs.foldl (stepB legal pay (solve legal pay) l) b)
  | [], b, _, hb => hb
  | x :: t, b, hx, hb => by
    refine step_bd hp ih t _ (fun y hy => hx y (List.mem_cons_of_mem _ hy)) ?_
    obtain ⟨h1, h2⟩ := mem_subsD.1 (hx x (List.mem_cons_self ..))
    have h3 := rest_lt h1 h2
    obtain ⟨⟨h4, h5⟩, h6, h7⟩ := ih _ h3
    have h8 := hp x
    unfold stepB
    split
    · split
      · exact ⟨⟨by simp only; omega, by simp only; omega⟩, by simp only; omega, by simp only; omega⟩
      · exact hb
    · exact hb
theorem solve_bd {legal : Nat → Bool} {pay : Nat → Int} (hp : ∀ x, 0 ≤ pay x ∧ pay x ≤ 20000) : ∀ l, BdB l (solve legal pay l) := by
  intro l
  induction l using Nat.strongRecOn with
  | ind l ih =>
    by_cases h0 : l = 0
    · subst h0
      rw [solve_zero]
      exact ⟨⟨by simp, by simp⟩, by simp, by simp⟩
    · rw [solve_eq h0]
      exact step_bd hp ih _ _ (fun x hx => hx) ⟨⟨by simp, by simp⟩, by simp, by simp only; omega⟩
theorem S_bd {d : DDay} (hd : DayOk d) (l : Nat) : BdB l (S d l) := solve_bd (payX_bd hd) l
/-- What a round of find knows. -/
def bC (b : BV) : Array Value := #[.int .u16 (b.first : Int), .int .i64 b.n, .int .i64 b.pay, .bool b.can]
structure Round (w0 w wr : World) (d : DDay) (P b1 b3 b4 b7 M L left : Nat) (F F' : Nat → Option Value) (x : Nat) (b : BV) (o : Nat) : Prop where
  find : FindAt w0 wr d P b1 b3 b4 b7 M L F'
  grown : w.grownBy wr (some M)
  keep : ∀ y, (F y).isSome = true → F' y = F y
  above : ∀ y, left ≤ y → F' y = F y
  sub : sub x left
  rest : (walkS left x).foldl (stepB (legalX d) (payX d) (S d) left) b = S d left
  out : wr.heap[o]? = some (.cells (bC b) 146 (0, 0))
  has : b.can = true → (F' (left ^^^ b.first)).isSome = true
theorem boxAt {w : World} {b : Nat} {v : Value} {t : TypeId} (h : w.heap[b]? = some (.cells #[v] t (0, 0))) : w.cell? ⟨b, 0, none⟩ = some v := by
  simp [World.cell?, h]
set_option maxRecDepth 100000 in
set_option maxHeartbeats 3200000 in
theorem find_any (d : DDay) (hd : DayOk d) (w0 : World) (P b1 b3 b4 b7 M L : Nat) : ∀ (left : Nat), left < 2 ^ segN d.blocks → ∀ (w : World) (F : Nat → Option Value), FindAt w0 w d P b1 b3 b4 b7 M L F →
    Calls Tryz.prog 97 #[.int .u16 (left : Int), ptr b3, ptr b4, ptr b7, ptr b1] w (GivesFind w0 d P b1 b3 b4 b7 M L left F w) := by
  intro left
  induction left using Nat.strongRecOn with
  | ind left ih =>
  intro hleft w F hF
  have h1024 : left < 1024 := Nat.lt_of_lt_of_le hleft (Nat.pow_le_pow_right (n := 2) (by omega) (by have := hd.segs; omega : segN d.blocks ≤ 10))
  have hl16 : left < 65536 := by omega
  have k1 := boxAt hF.c1
  have k3 := boxAt hF.c3
  have k4 := boxAt hF.c4
  have k7 := boxAt hF.c7
  have l1 := (Array.getElem?_eq_some_iff.1 hF.c1).1
  have l3 := (Array.getElem?_eq_some_iff.1 hF.c3).1
  have l4 := (Array.getElem?_eq_some_iff.1 hF.c4).1
  have l7 := (Array.getElem?_eq_some_iff.1 hF.c7).1
  have lM := hF.known.lt
  have Hk := Lib.hid hF.known
  have HF := Lib.hid hF
  have Ih := Lib.hid ih
  have Hd := Lib.hid hd
  clear ih hd
  unfold ptr
  cases hFl : F left with
  | some v =>
    have hv := hF.val _ _ hFl
    have Hlook := Lib.hid ((Hk.out.kept (Below.heap_alloc w (.cells #[.int .u16 0, .int .i64 0, .int .i64 0, .bool false] 146 (0, 0)) M lM)).look undMap (zeroBest _) hl16)
    rw [hFl, hv] at Hlook
    have HFl := Lib.hid (show (F left).isSome = true by rw [hFl]; rfl)
    clear hFl hF hv
    simp only [bC, Option.getD_some, Option.isSome_some, bvV] at Hlook
    obtain ⟨_, hrun⟩ := Hlook.out
    generalize hS : S d left = s at *
    have HS := Lib.hid hS
    clear hS Hlook
    go_enter Tryz.func97, Tryz.ntmps97
    go_wp2
    have e0 := heap_alloc_new w (.cells #[.int .u16 (s.first : Int), .int .i64 s.n, .int .i64 s.pay, .bool s.can] 146 (0, 0))
    have e1 := (Below.heap_alloc (w.alloc (.cells #[.int .u16 (s.first : Int), .int .i64 s.n, .int .i64 s.pay, .bool s.can] 146 (0, 0))) (.cells #[.int .u16 (s.first : Int), .int .i64 s.n, .int .i64 s.pay, .bool s.can] 146 (0, 0)) w.heap.size (by simp)).trans e0
    have hb : Below w.heap.size w ((w.alloc (.cells #[.int .u16 (s.first : Int), .int .i64 s.n, .int .i64 s.pay, .bool s.can] 146 (0, 0))).alloc (.cells #[.int .u16 (s.first : Int), .int .i64 s.n, .int .i64 s.pay, .bool s.can] 146 (0, 0))) := two_below w _ _
    refine bodyPost_ret (results_cell_row rfl _ _ w.heap.size 146 #[.int .u16 (s.first : Int), .int .i64 s.n, .int .i64 s.pay, .bool s.can] (0, 0) _ rfl e1 rfl rfl (by kernel_rfl)) rfl ?_
    exact ⟨F, by rw [HS.out]; rfl, HF.out.same (grown_of_below hb _), grown_of_below hb _, fun _ _ => rfl, fun _ _ => rfl, HFl.out⟩
  | none =>
    have Hlook := Lib.hid ((Hk.out.kept (Below.heap_alloc w (.cells #[.int .u16 0, .int .i64 0, .int .i64 0, .bool false] 146 (0, 0)) M lM)).look undMap (zeroBest _) hl16)
    rw [hFl] at Hlook
    have HFl := Lib.hid hFl
    have hl0 : left ≠ 0 := fun e => by rw [e] at hFl; have := hF.zero; rw [hFl] at this; cases this
    clear hFl hF
    simp only [Option.getD_none, Option.isSome_none] at Hlook
    obtain ⟨_, hrun⟩ := Hlook.out
    obtain ⟨lw, hlw⟩ : ∃ lw : Nat, lw = 1 <<< lowB left := ⟨_, rfl⟩
    have hlow : bits BinOp.and IntKind.u16 (left : Int) (IntKind.u16.wrap (-(left : Int))) = (lw : Int) := by rw [hlw]; exact low_num hl0 h1024
    have Htest := Lib.hid (show ∀ x : Nat, x < 65536 → (bits BinOp.and IntKind.u16 (x : Int) (lw : Int) == 0) = !x.testBit (lowB left) from fun x hx => by rw [hlw]; exact test_bit hx (lowB_lt hl0 h1024))
    clear hlw
    clear Hlook
    go_enter Tryz.func97, Tryz.ntmps97
    go_wp2
    go_loopw [11] (fun x wr => ∃ (xn : Nat) (F' : Nat → Option Value) (b : BV), x = .int .u16 (xn : Int) ∧ Round w0 w wr d P b1 b3 b4 b7 M L left F F' xn b (w.heap.size + 1 + 1) ∧ wr.heap[w.heap.size]? = some (.cells #[.int .u16 0, .int .i64 0, .int .i64 0, .bool false] 146 (0, 0))) (fun x wr => (intOf x).toNat)
    case atStart =>
      have hb3 : Below w.heap.size w (((w.alloc (.cells #[.int .u16 0, .int .i64 0, .int .i64 0, .bool false] 146 (0, 0))).alloc (.cells #[.int .u16 0, .int .i64 0, .int .i64 0, .bool false] 146 (0, 0))).alloc (.cells #[.int .u16 0, .int .i64 0, .int .i64 0, .bool false] 146 (0, 0))) := (two_below w _ _).alloc (by simp; omega) _
      refine ⟨left, F, ⟨0, 0, 0, false⟩, rfl, ⟨HF.out.same (grown_of_below hb3 _), grown_of_below hb3 _, fun _ _ => rfl, fun _ _ => rfl, Nat.and_self _, ?_, ?_, fun h => by cases h⟩, ?_⟩
      · rw [walkS_all]
        exact (solve_eq hl0).symm
      · simpa [bC] using heap_alloc_new ((w.alloc (.cells #[.int .u16 0, .int .i64 0, .int .i64 0, .bool false] 146 (0, 0))).alloc (.cells #[.int .u16 0, .int .i64 0, .int .i64 0, .bool false] 146 (0, 0))) (.cells #[.int .u16 0, .int .i64 0, .int .i64 0, .bool false] 146 (0, 0))
      · exact (Below.heap_alloc _ _ _ (by simp; omega)).trans ((Below.heap_alloc _ _ _ (by simp)).trans (heap_alloc_new w _))
    case round =>
      obtain ⟨x, F', b, rfl, hR, hbox⟩ := hrel
      obtain ⟨wo, rfl⟩ : ∃ wo : World, wo = wr := ⟨_, rfl⟩
      have hxl : x ≤ left := by have h := hR.sub; unfold sub at h; rw [← h]; exact Nat.and_le_right
      have hx16 : x < 65536 := by omega
      have q1 := boxAt hR.find.c1
      have q3 := boxAt hR.find.c3
      have q4 := boxAt hR.find.c4
      have q7 := boxAt hR.find.c7
      have s1 := (Array.getElem?_eq_some_iff.1 hR.out).1
      have s2 := hR.grown.size
      have HR := Lib.hid hR
      have Hbox := Lib.hid hbox
      have hsub := hR.sub
      clear hR hbox
      by_cases hx0 : 0 < x
      · have hx00 : x ≠ 0 := by omega
        have t1 := Htest.out x hx16
        obtain ⟨nx, hnx⟩ : ∃ nx : Nat, nx = (x - 1) &&& left := ⟨_, rfl⟩
        have t2 : bits BinOp.and IntKind.u16 ((x : Int) - 1) (left : Int) = (nx : Int) := by
          rw [hnx, ← next_num hx0 hx16 hl16]
          congr 1
          rw [wrap_u16]
          omega
        have Hws := Lib.hid (show walkS left x = x :: walkS left nx by rw [hnx]; exact walkS_step hsub hx00)
        have hsn : sub nx left := by rw [hnx]; unfold sub; rw [Nat.and_assoc, Nat.and_self]
        have hnl : nx ≤ x - 1 := by rw [hnx]; exact Nat.and_le_left
        have Hsn := Lib.hid hsn
        clear hnx hsn
        have skip : stepB (legalX d) (payX d) (S d) left b x = b → Round w0 w wo d P b1 b3 b4 b7 M L left F F' nx b (w.heap.size + 1 + 1) := fun e =>
          ⟨HR.out.find, HR.out.grown, HR.out.keep, HR.out.above, Hsn.out, by have h := HR.out.rest; rw [Hws.out, List.foldl_cons, e] at h; exact h, HR.out.out, HR.out.has⟩
        have Skip := Lib.hid skip
        have hlegal := (HR.out.find.legals.look undMapB (zeroBool _) hx16).1
        have hlx : (legF d (2 ^ segN d.blocks) x).getD (.bool false) = .bool (legalX d x) := by
          unfold legF
          rw [if_pos ⟨hx0, by omega⟩]
          rfl
        rw [hlx] at hlegal
        clear hlx skip
        cases hbit : x.testBit (lowB left) with
        | false =>
          have Hst := Lib.hid (show stepB (legalX d) (payX d) (S d) left b x = b by unfold stepB; rw [hbit]; rfl)
          rw [hbit] at t1
          simp only [Bool.not_false] at t1
          clear hbit hlegal
          go_wp2
          go_roundw
          case rel => exact ⟨nx, F', b, rfl, Skip.out Hst.out, Hbox.out⟩
          case measure => simp [intOf]; omega
        | true =>
          rw [hbit] at t1
          simp only [Bool.not_true] at t1
          cases hleg : legalX d x with
          | false =>
            have Hst := Lib.hid (show stepB (legalX d) (payX d) (S d) left b x = b by unfold stepB; rw [hbit, hleg]; rfl)
            rw [hleg] at hlegal
            clear hbit hleg
            go_wp2
            go_roundw
            case rel => exact ⟨nx, F', b, rfl, Skip.out Hst.out, Hbox.out⟩
            case measure => simp [intOf]; omega
          | true =>
            have Hst := Lib.hid (show stepB (legalX d) (payX d) (S d) left b x = (if (S d (left ^^^ x)).can && (!b.can || (decide ((S d (left ^^^ x)).n + 1 < b.n) || (decide ((S d (left ^^^ x)).n + 1 = b.n) && decide ((S d (left ^^^ x)).pay + payX d x < b.pay)))) then ⟨x, (S d (left ^^^ x)).n + 1, (S d (left ^^^ x)).pay + payX d x, true⟩ else b) by unfold stepB; rw [hbit, hleg]; rfl)
            rw [hleg] at hlegal
            have hlt := rest_lt hsub hx00
            obtain ⟨r, hr⟩ : ∃ r : Nat, r = left ^^^ x := ⟨_, rfl⟩
            have t3 : bits BinOp.xor IntKind.u16 (left : Int) (x : Int) = (r : Int) := by rw [hr]; exact bits_xor_u16 _ _ hl16 hx16
            rw [← hr] at Hst hlt
            have Hr := Lib.hid hr
            have Hrec := Lib.hid (find_val (Ih.out r hlt (by omega) _ _ HR.out.find))
            clear hbit hleg hr Skip
            go_wp2_with (refine wpList_callr (.tmp 43) [.tmp 46] #[141] rfl rfl _ rfl [.int .u16 (r : Int)] rfl Hrec.out ?_; rintro e w2 ⟨F2, rfl, hF2, hg2, hk2, ha2, hs2⟩; refine ⟨.agg #[.int .u16 ((S d r).first : Int), .int .i64 (S d r).n, .int .i64 (S d r).pay, .bool (S d r).can], rfl, ?_⟩; have HF2 := Lib.hid hF2; have Hg2 := Lib.hid hg2; have Hk2 := Lib.hid hk2; have Ha2 := Lib.hid ha2; have Hs2 := Lib.hid hs2; clear hF2 hg2 hk2 ha2 hs2)
            obtain ⟨N1, hN1⟩ : ∃ N1 : Int, N1 = (S d r).n + 1 := ⟨_, rfl⟩
            obtain ⟨P1, hP1⟩ : ∃ P1 : Int, P1 = (S d r).pay + payX d x := ⟨_, rfl⟩
            have qn : IntKind.i64.wrap ((S d r).n + 1) = N1 := by have h := S_bd Hd.out r; obtain ⟨⟨_, _⟩, _, _⟩ := h; rw [hN1, IntWalk.i64_in _ (by omega)]
            have qp : IntKind.i64.wrap ((S d r).pay + payX d x) = P1 := by have h := S_bd Hd.out r; obtain ⟨⟨_, _⟩, _, _⟩ := h; have := payX_bd Hd.out x; rw [hP1, IntWalk.i64_in _ (by omega)]
            have HN1 := Lib.hid hN1
            have HP1 := Lib.hid hP1
            have oM := HR.out.find.known.notCells HR.out.out
            have bM := HR.out.find.known.notCells Hbox.out
            have h2o := (Hg2.out.block _ s1 (fun e => oM (by injection e))).trans HR.out.out
            have h2b := (Hg2.out.block _ (Array.getElem?_eq_some_iff.1 Hbox.out).1 (fun e => bM (by injection e))).trans Hbox.out
            have l2o := (Array.getElem?_eq_some_iff.1 h2o).1
            have l2b := (Array.getElem?_eq_some_iff.1 h2b).1
            refine wp_name (fun W => FindAt w0 W d P b1 b3 b4 b7 M L F2 ∧ w.grownBy W (some M) ∧ W.heap[w2.heap.size]? = some (.cells (bC (S d r)) 146 (0, 0)) ∧ W.heap[w.heap.size + 1 + 1]? = some (.cells (bC b) 146 (0, 0)) ∧
              W.heap[w.heap.size]? = some (.cells #[.int .u16 0, .int .i64 0, .int .i64 0, .bool false] 146 (0, 0))) ⟨HF2.out.same (World.grownBy_alloc w2 _ none), (HR.out.grown.trans Hg2.out).trans (World.grownBy_alloc w2 _ _), heap_alloc_new w2 _, (Below.heap_alloc w2 _ _ l2o).trans h2o, (Below.heap_alloc w2 _ _ l2b).trans h2b⟩ (fun W hW => ?_)
            obtain ⟨W1, W2, W3, W4, W5⟩ := hW
            have q1 := boxAt W1.c1
            obtain ⟨⟨_, c1, c2, c3⟩, _⟩ := cellsAt4 W3
            obtain ⟨⟨_, o1, o2, o3⟩, _⟩ := cellsAt4 W4
            have HW1 := Lib.hid W1
            have HW2 := Lib.hid W2
            have HW3 := Lib.hid W3
            have HW4 := Lib.hid W4
            have HW5 := Lib.hid W5
            have HPay := Lib.hid (show ∀ w', Below W.heap.size W w' → Calls Tryz.prog 98 #[.pointer (some ⟨P, 0, none⟩), .int .u16 (x : Int)] w' (Gives w' (.int .i64 (payX d x))) from fun w' h' => pay_any P x d w' Hd.out (HW1.out.plan.below (HW1.out.bel.trans (h'.mono HW1.out.bel.size))) (by omega) hx00)
            have ltB := (Array.getElem?_eq_some_iff.1 W3).1
            have ltO := (Array.getElem?_eq_some_iff.1 W4).1
            clear W1 W2 W3 W4 W5 l2o l2b h2o h2b q3 q4 q7 hN1 hP1 hsub hlegal
            generalize w2.heap.size = B at *
            generalize payX d x = PX at *
            generalize S d r = sr at *
            obtain ⟨srf, srn, srp, src⟩ := sr
            simp only at *
            go_cut [13] from 48 to 59 (fun z wx => ∃ g, z = .pointer (some ⟨g, 0, none⟩) ∧ Below W.heap.size W wx ∧ W.heap.size ≤ g ∧ wx.heap[g]? = some (.cells #[.int .i64 N1, .int .i64 P1] 144 (0, 0)))
            case first =>
              have d0 : Below W.heap.size W W.drew := (Below.refl _ _).drew
              refine wp_region_noPanic ?_
              refine wp_region_pickA [0, 1, 2, 3, 4, 5, 6, 7, 8] 5 (fun _ => true) (fun w' => Below W.heap.size W w') (by kernel_rfl) (by kernel_rfl) (fun _ _ _ _ _ h => h) d0 (fun hne => ?_)
              have n0 := fun x : Meets (fun w' => Below W.heap.size W w') => cell_below x.property c1
              have n1 := fun x : Meets (fun w' => Below W.heap.size W w') => cell_below x.property c2
              have n2 := fun x : Meets (fun w' => Below W.heap.size W w') => cell_below x.property q1
              simp only [pick, pickN, List.filterMap_cons, List.filterMap_nil, List.getElem?_cons_zero, List.getElem?_cons_succ, Option.map_some]
              repeat (change wpQuiet _ _ _ _ (_ :: _) _; go_big_quiet_step (fail))
              refine wpQuiet_nil ?_
              clear n0 n1 n2 hne
              refine wpAnyF_two (i := 9) (j := 12) (by kernel_rfl) rfl rfl (fun K hK => ?_) (fun K hK => ?_)
              · skip
                go_simp
                refine (HPay.out _ d0).mono ?_
                rintro e v1 ⟨rfl, he1⟩
                have hB1 := d0.trans (he1.mono d0.size)
                refine hK.out _ _ (fun _ => hB1) ?_
                clear hK K
                refine wpAnyF_two (i := 10) (j := 12) (by kernel_rfl) rfl rfl (fun K hK => ?_) (fun K hK => ?_)
                · skip
                  go_simp
                  refine hK.out _ _ (fun _ => hB1) ?_
                  clear hK K
                  refine wpAnyF_two (i := 11) (j := 12) (by kernel_rfl) rfl rfl (fun K hK => ?_) (fun K hK => ?_)
                  · skip
                    go_simp
                    refine hK.out _ _ (fun _ => hB1) ?_
                    clear hK K
                    refine wpAnyF_one (i := 12) (by kernel_rfl) rfl (fun K hK => ?_)
                    go_simp
                    have hB2 := hB1.alloc hB1.size (.cells #[.int .i64 0, .int .i64 0] 144 (0, 0))
                    have bx2 := heap_alloc_new v1 (.cells #[.int .i64 0, .int .i64 0] 144 (0, 0))
                    have gl2 : W.heap.size ≤ v1.heap.size := hB1.size
                    refine hK.out _ _ (fun _ => hB2) ?_
                    clear hK K
                    obtain ⟨g, hg⟩ : ∃ g, v1.heap.size = g := ⟨_, rfl⟩
                    rw [hg] at bx2 gl2 ⊢
                    generalize (v1.alloc (.cells #[.int .i64 0, .int .i64 0] 144 (0, 0))) = v2 at *
                    refine wpAnyF_one (i := 13) (by kernel_rfl) rfl (fun K hK => ?_)
                    have f0 := box_frozen bx2 0
                    have f1 := box_frozen bx2 1
                    have z0 := cellAt0 bx2
                    have z1 := cellAt1 bx2
                    go_simp
                    refine hK.out _ _ (fun _ => (hB2.setCell (p := ⟨g, 0, none⟩) gl2 _).setCell (p := ⟨g, 1, none⟩) gl2 _) ?_
                    clear hK K
                    refine wpAnyF_done (by kernel_rfl) ?_ _
                    refine NoPanic.normal ?_
                    go_wp2_with fail
                    go_meet
                    case rel => exact ⟨g, rfl, (hB2.setCell (p := ⟨g, 0, none⟩) gl2 _).setCell (p := ⟨g, 1, none⟩) gl2 _, gl2, by have e := blk_set (blk_set bx2 (o := 0) (.int .i64 N1)) (o := 1) (.int .i64 P1); simpa only [List.setIfInBounds_toArray, List.set_cons_succ, List.set_cons_zero] using e⟩
                  · skip
                    go_simp
                    have hB2 := hB1.alloc hB1.size (.cells #[.int .i64 0, .int .i64 0] 144 (0, 0))
                    have bx2 := heap_alloc_new v1 (.cells #[.int .i64 0, .int .i64 0] 144 (0, 0))
                    have gl2 : W.heap.size ≤ v1.heap.size := hB1.size
                    refine hK.out _ _ (fun _ => hB2) ?_
                    clear hK K
                    obtain ⟨g, hg⟩ : ∃ g, v1.heap.size = g := ⟨_, rfl⟩
                    rw [hg] at bx2 gl2 ⊢
                    generalize (v1.alloc (.cells #[.int .i64 0, .int .i64 0] 144 (0, 0))) = v2 at *
                    refine wpAnyF_one (i := 11) (by kernel_rfl) rfl (fun K hK => ?_)
                    go_simp
                    refine hK.out _ _ (fun _ => hB2) ?_
                    clear hK K
                    refine wpAnyF_one (i := 13) (by kernel_rfl) rfl (fun K hK => ?_)
                    have f0 := box_frozen bx2 0
                    have f1 := box_frozen bx2 1
                    have z0 := cellAt0 bx2
                    have z1 := cellAt1 bx2
                    go_simp
                    refine hK.out _ _ (fun _ => (hB2.setCell (p := ⟨g, 0, none⟩) gl2 _).setCell (p := ⟨g, 1, none⟩) gl2 _) ?_
                    clear hK K
                    refine wpAnyF_done (by kernel_rfl) ?_ _
                    refine NoPanic.normal ?_
                    go_wp2_with fail
                    go_meet
                    case rel => exact ⟨g, rfl, (hB2.setCell (p := ⟨g, 0, none⟩) gl2 _).setCell (p := ⟨g, 1, none⟩) gl2 _, gl2, by have e := blk_set (blk_set bx2 (o := 0) (.int .i64 N1)) (o := 1) (.int .i64 P1); simpa only [List.setIfInBounds_toArray, List.set_cons_succ, List.set_cons_zero] using e⟩
                · skip
                  go_simp
                  have hB2 := hB1.alloc hB1.size (.cells #[.int .i64 0, .int .i64 0] 144 (0, 0))
                  have bx2 := heap_alloc_new v1 (.cells #[.int .i64 0, .int .i64 0] 144 (0, 0))
                  have gl2 : W.heap.size ≤ v1.heap.size := hB1.size
                  refine hK.out _ _ (fun _ => hB2) ?_
                  clear hK K
                  obtain ⟨g, hg⟩ : ∃ g, v1.heap.size = g := ⟨_, rfl⟩
                  rw [hg] at bx2 gl2 ⊢
                  generalize (v1.alloc (.cells #[.int .i64 0, .int .i64 0] 144 (0, 0))) = v2 at *
                  refine wpAnyF_one (i := 10) (by kernel_rfl) rfl (fun K hK => ?_)
                  go_simp
                  refine hK.out _ _ (fun _ => hB2) ?_
                  clear hK K
                  refine wpAnyF_one (i := 11) (by kernel_rfl) rfl (fun K hK => ?_)
                  go_simp
                  refine hK.out _ _ (fun _ => hB2) ?_
                  clear hK K
                  refine wpAnyF_one (i := 13) (by kernel_rfl) rfl (fun K hK => ?_)
                  have f0 := box_frozen bx2 0
                  have f1 := box_frozen bx2 1
                  have z0 := cellAt0 bx2
                  have z1 := cellAt1 bx2
                  go_simp
                  refine hK.out _ _ (fun _ => (hB2.setCell (p := ⟨g, 0, none⟩) gl2 _).setCell (p := ⟨g, 1, none⟩) gl2 _) ?_
                  clear hK K
                  refine wpAnyF_done (by kernel_rfl) ?_ _
                  refine NoPanic.normal ?_
                  go_wp2_with fail
                  go_meet
                  case rel => exact ⟨g, rfl, (hB2.setCell (p := ⟨g, 0, none⟩) gl2 _).setCell (p := ⟨g, 1, none⟩) gl2 _, gl2, by have e := blk_set (blk_set bx2 (o := 0) (.int .i64 N1)) (o := 1) (.int .i64 P1); simpa only [List.setIfInBounds_toArray, List.set_cons_succ, List.set_cons_zero] using e⟩
              · skip
                go_simp
                have hB2 : Below W.heap.size W (W.alloc (.cells #[.int .i64 0, .int .i64 0] 144 (0, 0))).drew := ((Below.refl W.heap.size W).alloc (Nat.le_refl _) (.cells #[.int .i64 0, .int .i64 0] 144 (0, 0))).drew
                have bx2 : ((W.alloc (.cells #[.int .i64 0, .int .i64 0] 144 (0, 0))).drew).heap[W.heap.size]? = _ := heap_alloc_new W (.cells #[.int .i64 0, .int .i64 0] 144 (0, 0))
                have gl2 : W.heap.size ≤ W.heap.size := Nat.le_refl _
                refine hK.out _ _ (fun _ => hB2) ?_
                clear hK K
                generalize (W.alloc (.cells #[.int .i64 0, .int .i64 0] 144 (0, 0))).drew = v2 at *
                have glt := (Array.getElem?_eq_some_iff.1 bx2).1
                refine wpAnyF_one (i := 9) (by kernel_rfl) rfl (fun K hK => ?_)
                go_simp
                refine (HPay.out _ hB2).mono ?_
                rintro e v3 ⟨rfl, he3⟩
                have hB3 := hB2.trans (he3.mono hB2.size)
                have bx3 := (he3.block _ glt).trans bx2
                refine hK.out _ _ (fun _ => hB3) ?_
                clear hK K
                refine wpAnyF_one (i := 10) (by kernel_rfl) rfl (fun K hK => ?_)
                go_simp
                refine hK.out _ _ (fun _ => hB3) ?_
                clear hK K
                refine wpAnyF_one (i := 11) (by kernel_rfl) rfl (fun K hK => ?_)
                go_simp
                refine hK.out _ _ (fun _ => hB3) ?_
                clear hK K
                refine wpAnyF_one (i := 13) (by kernel_rfl) rfl (fun K hK => ?_)
                have f0 := box_frozen bx3 0
                have f1 := box_frozen bx3 1
                have z0 := cellAt0 bx3
                have z1 := cellAt1 bx3
                go_simp
                refine hK.out _ _ (fun _ => (hB3.setCell (p := ⟨W.heap.size, 0, none⟩) gl2 _).setCell (p := ⟨W.heap.size, 1, none⟩) gl2 _) ?_
                clear hK K
                refine wpAnyF_done (by kernel_rfl) ?_ _
                refine NoPanic.normal ?_
                go_wp2_with fail
                go_meet
                case rel => exact ⟨W.heap.size, rfl, (hB3.setCell (p := ⟨W.heap.size, 0, none⟩) gl2 _).setCell (p := ⟨W.heap.size, 1, none⟩) gl2 _, gl2, by have e := blk_set (blk_set bx3 (o := 0) (.int .i64 N1)) (o := 1) (.int .i64 P1); simpa only [List.setIfInBounds_toArray, List.set_cons_succ, List.set_cons_zero] using e⟩
            case rest =>
              obtain ⟨g, rfl, hB, hg, hbx⟩ := hcut
              rename World => V
              have V3 := (hB.block _ ltB).trans HW3.out
              have V4 := (hB.block _ ltO).trans HW4.out
              have V5 := (hB.block _ (Array.getElem?_eq_some_iff.1 HW5.out).1).trans HW5.out
              have VM := hB.block _ HW1.out.known.lt
              obtain ⟨⟨_, _, _, y3⟩, _⟩ := cellsAt4 V3
              obtain ⟨⟨_, u1, u2, u3⟩, v0, v1, v2, v3⟩ := cellsAt4 V4
              have z0 := cellAt0 hbx
              have z1 := cellAt1 hbx
              have VL := (Array.getElem?_eq_some_iff.1 V4).1
              have V6 := (Array.getElem?_eq_some_iff.1 V5).1
              have Vg : w.grownBy V (some M) := HW2.out.trans (grown_of_below hB _)
              have Hnext := Lib.hid (show ∀ (V' : World) (b' : BV), w.grownBy V' (some M) → V'.heap[M]? = W.heap[M]? → V'.heap[w.heap.size + 1 + 1]? = some (.cells (bC b') 146 (0, 0)) → V'.heap[w.heap.size]? = some (.cells #[.int .u16 0, .int .i64 0, .int .i64 0, .bool false] 146 (0, 0)) →
                  stepB (legalX d) (payX d) (S d) left b x = b' → (b'.can = true → (F2 (left ^^^ b'.first)).isSome = true) →
                  ∃ (xn : Nat) (F'' : Nat → Option Value) (b'' : BV), (.int .u16 (nx : Int) : Value) = .int .u16 (xn : Int) ∧ Round w0 w V' d P b1 b3 b4 b7 M L left F F'' xn b'' (w.heap.size + 1 + 1) ∧ V'.heap[w.heap.size]? = some (.cells #[.int .u16 0, .int .i64 0, .int .i64 0, .bool false] 146 (0, 0)) from
                fun V' b' h1 h2 h3 h4 h5 h6 => ⟨nx, F2, b', rfl, ⟨HF.out.turn h1 (HW1.out.known.kept h2) HW1.out.val HW1.out.zero HW1.out.next, h1, fun y hy => (Hk2.out y (by rw [HR.out.keep y hy]; exact hy)).trans (HR.out.keep y hy), fun y hy => (Ha2.out y (by omega)).trans (HR.out.above y hy), Hsn.out,
                  by have h := HR.out.rest; rw [Hws.out, List.foldl_cons, h5] at h; exact h, h3, h6⟩, h4⟩)
              have Hold := Lib.hid (show b.can = true → (F2 (left ^^^ b.first)).isSome = true from fun hc => by have h := HR.out.has hc; rw [Hk2.out _ h]; exact h)
              have Hnew := Lib.hid (show (F2 (left ^^^ x)).isSome = true by rw [← Hr.out]; exact Hs2.out)
              have HV4 := Lib.hid V4
              have HV5 := Lib.hid V5
              have HVM := Lib.hid VM
              have HVg := Lib.hid Vg
              have nM9 := HR.out.find.known.notCells HR.out.out
              have n69 : w.heap.size ≠ w.heap.size + 1 + 1 := by omega
              have HB := Lib.hid hB
              have Hbx := Lib.hid hbx
              have glt := (Array.getElem?_eq_some_iff.1 hbx).1
              have hle9 : w.heap.size ≤ w.heap.size + 1 + 1 := by omega
              clear V3 V4 V5 VM Vg hB hbx c1 c2 c3 o1 o2 o3 q1
              cases src with
              | false =>
                have hst : stepB (legalX d) (payX d) (S d) left b x = b := by have h := Hst.out; simpa using h
                have Hst2 := Lib.hid hst
                clear hst
                go_wp2
                go_roundw
                case rel => exact Hnext.out V b HVg.out HVM.out HV4.out HV5.out Hst2.out Hold.out
                case measure => simp [intOf]; omega
              | true =>
              cases hbc : b.can with
              | false =>
                have hst : stepB (legalX d) (payX d) (S d) left b x = ⟨x, N1, P1, true⟩ := by have h := Hst.out; rw [h, hbc, HN1.out, HP1.out]; simp
                have Hst2 := Lib.hid hst
                rw [hbc] at u3
                clear hst hbc
                go_wp2
                go_roundw
                case measure => simp [intOf]; omega
                case rel =>
                  have e4 := blk_set (blk_set (blk_set (blk_set (o := 0) HV4.out (.int .u16 (x : Int))) (o := 1) (.int .i64 N1)) (o := 2) (.int .i64 P1)) (o := 3) (.bool true)
                  unfold bC at e4
                  simp only [List.setIfInBounds_toArray, List.set_cons_succ, List.set_cons_zero] at e4
                  have e5 := blk_other (blk_other (blk_other (blk_other (o := 0) HV5.out n69 (.int .u16 (x : Int))) (o := 1) n69 (.int .i64 N1)) (o := 2) n69 (.int .i64 P1)) (o := 3) n69 (.bool true)
                  have hg4 := grown_set (grown_set (grown_set (grown_set HVg.out (p := ⟨w.heap.size + 1 + 1, 0, none⟩) hle9 (.int .u16 (x : Int))) (p := ⟨w.heap.size + 1 + 1, 1, none⟩) hle9 (.int .i64 N1)) (p := ⟨w.heap.size + 1 + 1, 2, none⟩) hle9 (.int .i64 P1)) (p := ⟨w.heap.size + 1 + 1, 3, none⟩) hle9 (.bool true)
                  refine Hnext.out _ ⟨x, N1, P1, true⟩ hg4 ?_ e4 e5 Hst2.out (fun _ => Hnew.out)
                  rw [Below.heap_setCell _ _ _ _ (fun e => nM9 e.symm), Below.heap_setCell _ _ _ _ (fun e => nM9 e.symm), Below.heap_setCell _ _ _ _ (fun e => nM9 e.symm), Below.heap_setCell _ _ _ _ (fun e => nM9 e.symm)]
                  exact HVM.out
              | true =>
                rw [hbc] at u3
                have Hless := Lib.hid (less_any N1 P1 b.n b.pay V)
                cases hLb : (decide (N1 < b.n) || (decide (N1 = b.n) && decide (P1 < b.pay))) with
                | false =>
                  have hst : stepB (legalX d) (payX d) (S d) left b x = b := by have h := Hst.out; rw [h, hbc]; rw [HN1.out, HP1.out] at hLb; simp only [hLb]; simp
                  have Hst2 := Lib.hid hst
                  rw [hLb] at Hless
                  clear hst hbc hLb
                  go_wp2_with (go_at_call 99; refine Hless.out.mono ?_; rintro e V7 ⟨rfl, hb7⟩)
                  go_roundw
                  case measure => simp [intOf]; omega
                  case rel => exact Hnext.out V7 b (HVg.out.trans (grown_of_below hb7 _)) ((hb7.block _ (Nat.lt_of_lt_of_le HW1.out.known.lt HB.out.size)).trans HVM.out) ((hb7.block _ VL).trans HV4.out) ((hb7.block _ V6).trans HV5.out) Hst2.out Hold.out
                | true =>
                  have hst : stepB (legalX d) (payX d) (S d) left b x = ⟨x, N1, P1, true⟩ := by have h := Hst.out; rw [h, hbc]; rw [HN1.out, HP1.out] at hLb; simp only [hLb]; rw [HN1.out, HP1.out]; simp
                  have Hst2 := Lib.hid hst
                  rw [hLb] at Hless
                  clear hst hbc hLb
                  go_wp2_with (go_at_call 99; refine Hless.out.mono ?_; rintro e V7 ⟨rfl, hb7⟩; obtain ⟨⟨_, _, _, _⟩, j0, j1, j2, j3⟩ := cellsAt4 ((hb7.block _ VL).trans HV4.out); have j4 := cellAt0 ((hb7.block _ glt).trans Hbx.out); have j5 := cellAt1 ((hb7.block _ glt).trans Hbx.out); obtain ⟨⟨j6, j7, j8, j9⟩, _⟩ := cellsAt4 ((hb7.block _ VL).trans HV4.out))
                  go_roundw
                  case measure => simp [intOf]; omega
                  case rel =>
                    have e4 := blk_set (blk_set (blk_set (blk_set (o := 0) ((hb7.block _ VL).trans HV4.out) (.int .u16 (x : Int))) (o := 1) (.int .i64 N1)) (o := 2) (.int .i64 P1)) (o := 3) (.bool true)
                    unfold bC at e4
                    simp only [List.setIfInBounds_toArray, List.set_cons_succ, List.set_cons_zero] at e4
                    have e5 := blk_other (blk_other (blk_other (blk_other (o := 0) ((hb7.block _ V6).trans HV5.out) n69 (.int .u16 (x : Int))) (o := 1) n69 (.int .i64 N1)) (o := 2) n69 (.int .i64 P1)) (o := 3) n69 (.bool true)
                    have hg4 := grown_set (grown_set (grown_set (grown_set (HVg.out.trans (grown_of_below hb7 _)) (p := ⟨w.heap.size + 1 + 1, 0, none⟩) hle9 (.int .u16 (x : Int))) (p := ⟨w.heap.size + 1 + 1, 1, none⟩) hle9 (.int .i64 N1)) (p := ⟨w.heap.size + 1 + 1, 2, none⟩) hle9 (.int .i64 P1)) (p := ⟨w.heap.size + 1 + 1, 3, none⟩) hle9 (.bool true)
                    refine Hnext.out _ ⟨x, N1, P1, true⟩ hg4 ?_ e4 e5 Hst2.out (fun _ => Hnew.out)
                    rw [Below.heap_setCell _ _ _ _ (fun e => nM9 e.symm), Below.heap_setCell _ _ _ _ (fun e => nM9 e.symm), Below.heap_setCell _ _ _ _ (fun e => nM9 e.symm), Below.heap_setCell _ _ _ _ (fun e => nM9 e.symm)]
                    exact (hb7.block _ (Nat.lt_of_lt_of_le HW1.out.known.lt HB.out.size)).trans HVM.out
      · have hd0 : decide (0 < x) = false := by simpa using hx0
        have hx00 : x = 0 := by omega
        have hend : b = S d left := by
          have h := HR.out.rest
          rw [hx00, walkS_zero] at h
          exact h
        have h0 : F' left = none := (HR.out.above left (Nat.le_refl _)).trans HFl.out
        obtain ⟨⟨o0, o1, o2, o3⟩, _⟩ := cellsAt4 HR.out.out
        have nM6 := HR.out.find.known.notCells Hbox.out
        have nM9 := HR.out.find.known.notCells HR.out.out
        have Hend := Lib.hid hend
        have H0 := Lib.hid h0
        clear hend h0 hx00
        go_wp2_with (refine wpList_upd_is rfl (.tmp 76) (.tmp 77) (.tmp 78) rfl undMap left (.agg #[.int .u16 (b.first : Int), .int .i64 b.n, .int .i64 b.pay, .bool b.can]) rfl rfl rfl HR.out.find.known hl16 H0.out ?_; intro w3 hm3 hg3; have e6 := (hg3.block _ (Array.getElem?_eq_some_iff.1 Hbox.out).1 (fun e => nM6 (by injection e))).trans Hbox.out; have e9 := (hg3.block _ s1 (fun e => nM9 (by injection e))).trans HR.out.out; obtain ⟨⟨p0, p1, p2, p3⟩, _⟩ := cellsAt4 e9; obtain ⟨⟨_, _, _, _⟩, f0, f1, f2, f3⟩ := cellsAt4 e6; have Hm3 := Lib.hid hm3; have Hg3 := Lib.hid hg3; have E6 := Lib.hid e6; clear hm3 hg3 e6 e9)
        have e4 := blk_set (blk_set (blk_set (blk_set (o := 0) E6.out (.int .u16 (b.first : Int))) (o := 1) (.int .i64 b.n)) (o := 2) (.int .i64 b.pay)) (o := 3) (.bool b.can)
        simp only [List.setIfInBounds_toArray, List.set_cons_succ, List.set_cons_zero] at e4
        refine bodyPost_ret (results_cell_row rfl _ _ w.heap.size 146 #[.int .u16 (b.first : Int), .int .i64 b.n, .int .i64 b.pay, .bool b.can] (0, 0) _ rfl e4 rfl rfl (by kernel_rfl)) rfl ?_
        have hg := grown_set (grown_set (grown_set (grown_set (HR.out.grown.trans Hg3.out) (p := ⟨w.heap.size, 0, none⟩) (Nat.le_refl _) (.int .u16 (b.first : Int))) (p := ⟨w.heap.size, 1, none⟩) (Nat.le_refl _) (.int .i64 b.n)) (p := ⟨w.heap.size, 2, none⟩) (Nat.le_refl _) (.int .i64 b.pay)) (p := ⟨w.heap.size, 3, none⟩) (Nat.le_refl _) (.bool b.can)
        have hne : ∀ y : Nat, left < y → y ≠ left := fun y hy => by omega
        have hk := Hm3.out
        rw [show (Value.agg #[.int .u16 (b.first : Int), .int .i64 b.n, .int .i64 b.pay, .bool b.can]) = bvV (S d left) by rw [← Hend.out]; rfl] at hk
        refine ⟨updF F' left (bvV (S d left)), by rw [← Hend.out]; rfl, HF.out.turn hg (hk.kept ?_) (fun y v hv => ?_) (updF_some HR.out.find.zero) (fun y hy hy0 hc => ?_), hg, fun y hy => ?_, fun y hy => ?_, by rw [updF_same]; rfl⟩
        · rw [Below.heap_setCell _ _ _ _ (fun e => nM6 e.symm), Below.heap_setCell _ _ _ _ (fun e => nM6 e.symm), Below.heap_setCell _ _ _ _ (fun e => nM6 e.symm), Below.heap_setCell _ _ _ _ (fun e => nM6 e.symm)]
        · by_cases e : y = left
          · subst e
            rw [updF_same] at hv
            injection hv with hv
            exact hv.symm
          · rw [updF_other e] at hv
            exact HR.out.find.val y v hv
        · by_cases e : y = left
          · subst e
            refine updF_some ?_
            rw [← Hend.out]
            exact HR.out.has (by rw [Hend.out]; exact hc)
          · rw [updF_other e] at hy
            exact updF_some (HR.out.find.next y hy hy0 hc)
        · rw [updF_other (fun e => by rw [e, HFl.out] at hy; cases hy)]
          exact HR.out.keep y hy
        · rw [updF_other (hne y hy)]
          exact HR.out.above y (by omega)
end Go.Proofs.YtckgapeednokjaaGreat
namespace Go.Proofs.YtckgapeednokjaaGreat
open Go Go.Proofs Go.RowKit

/-! ### bests -/
structure KnownAt (w : World) (d : DDay) (M : Nat) (F : Nat → Option Value) : Prop where
  known : MapIs w M F
  val : ∀ x v, F x = some v → v = bvV (S d x)
  next : ∀ x, (F x).isSome = true → x ≠ 0 → (S d x).can = true → (F (x ^^^ (S d x).first)).isSome = true
  full : (F (fullM (segN d.blocks))).isSome = true
def GivesKnown (d : DDay) (w : World) (e : Ending) (w' : World) : Prop := ∃ M F, e = .returned (.map (some M)) ∧ KnownAt w' d M F ∧ Below w.heap.size w w'
def F0 : Nat → Option Value := updF (fun _ => none) 0 (.agg #[.int .u16 0, .int .i64 0, .int .i64 0, .bool true])
theorem legF_one (d : DDay) : legF d 1 = fun _ => none := by
  funext x
  unfold legF
  exact if_neg (by omega)
theorem legF_succ (d : DDay) {k : Nat} (hk : 1 ≤ k) : legF d (k + 1) = updF (legF d k) k (.bool (legalX d k)) := by
  funext x
  unfold legF updF
  by_cases e : x = k
  · subst e
    rw [if_pos rfl, if_pos (by omega)]
  · rw [if_neg e]
    show _ = if 1 ≤ x ∧ x < k then _ else _
    by_cases h : 1 ≤ x ∧ x < k
    · rw [if_pos h, if_pos (by omega)]
    · rw [if_neg h, if_neg (by omega)]
theorem legF_at (d : DDay) (k : Nat) : legF d k k = none := if_neg (by omega)
theorem F0_val (d : DDay) : ∀ x v, F0 x = some v → v = bvV (S d x) := fun x v h => by
  unfold F0 updF at h
  by_cases e : x = 0
  · subst e
    rw [if_pos rfl] at h
    injection h with h
    rw [← h]
    rfl
  · rw [if_neg e] at h
    cases h
theorem F0_next (d : DDay) : ∀ x, (F0 x).isSome = true → x ≠ 0 → (S d x).can = true → (F0 (x ^^^ (S d x).first)).isSome = true := fun x h h0 => by
  unfold F0 updF at h
  rw [if_neg h0] at h
  cases h
theorem legal_val {P x : Nat} {w : World} {R : Ending → World → Prop} (h : Calls Tryz.prog 60 #[.pointer (some ⟨P, 0, none⟩), .int .u16 (x : Int)] w R) :
    CallsVal Tryz.prog (.func (.func 60) #[.pointer (some ⟨P, 0, none⟩)] #[]) #[.int .u16 (x : Int)] w R :=
  ⟨60, #[.pointer (some ⟨P, 0, none⟩), .int .u16 (x : Int)], by kernel_rfl, h⟩
structure BestsAt (d : DDay) (w W : World) (P b1 b3 b4 M L k : Nat) : Prop where
  bel : Below w.heap.size w W
  c1 : W.heap[b1]? = some (.cells #[.pointer (some ⟨P, 0, none⟩)] 136 (0, 0))
  c3 : W.heap[b3]? = some (.cells #[.map (some M)] 138 (0, 0))
  c4 : W.heap[b4]? = some (.cells #[.map (some L)] 195 (0, 0))
  known : MapIs W M F0
  legals : MapIs W L (legF d k)
  hM : w.heap.size ≤ M
  hL : w.heap.size ≤ L
  ne : L ≠ M
theorem BestsAt.turn {d : DDay} {w W V : World} {P b1 b3 b4 M L k k' : Nat} (h : BestsAt d w W P b1 b3 b4 M L k) (hg : W.grownBy V (some L)) (hl : MapIs V L (legF d k')) : BestsAt d w V P b1 b3 b4 M L k' := by
  have hc : ∀ {c : Nat} {o : Obj}, W.heap[c]? = some o → c ≠ L → V.heap[c]? = some o := fun {c o} he hn =>
    (hg.block c (Array.getElem?_eq_some_iff.1 he).1 (fun e => hn (by injection e))).trans he
  exact ⟨h.bel.trans ⟨hg.os, hg.tape, hg.output, hg.size, fun k hk' => hg.block k (by have := h.bel.size; omega) (fun e => by have := h.hL; injection e; omega)⟩,
    hc h.c1 (h.legals.notCells h.c1), hc h.c3 (h.legals.notCells h.c3), hc h.c4 (h.legals.notCells h.c4), h.known.kept (hg.block M h.known.lt (fun e => h.ne (by injection e with e; exact e.symm))), hl, h.hM, h.hL, h.ne⟩
set_option maxRecDepth 100000 in
set_option maxHeartbeats 3200000 in
theorem bests_any (P : Nat) (d : DDay) (w : World) (hd : DayOk d) (hp : PlanAt w P d) : Calls Tryz.prog 56 #[.pointer (some ⟨P, 0, none⟩)] w (GivesKnown d w) := by
  have hN : 2 ^ segN d.blocks ≤ 1024 := Nat.pow_le_pow_right (n := 2) (by omega) (by have := hd.segs; omega : segN d.blocks ≤ 10)
  have hN1 := Nat.two_pow_pos (segN d.blocks)
  have hfull : fullM (segN d.blocks) + 1 = 2 ^ segN d.blocks := by unfold fullM; omega
  have Hp := Lib.hid hp
  have Hd := Lib.hid hd
  clear hd hp
  have mk : ∀ (t : TypeId) (w : World), (Instr.makeMap t none).run Tryz.prog w = .ok (.map (some w.heap.size)) (w.alloc (.map #[] 0)) := fun t w => run_makeMap t w
  have hm1 : MapIs ((w.alloc (.cells #[.pointer (some ⟨P, 0, none⟩)] 136 (0, 0))).alloc (.map #[] 0)) (w.heap.size + 1) fun _ => none := by
    have h := mapIs_made (w.alloc (.cells #[.pointer (some ⟨P, 0, none⟩)] 136 (0, 0)))
    simpa using h
  go_enter Tryz.func56, Tryz.ntmps56
  have A0 : ((w.alloc (.cells #[.pointer (some ⟨P, 0, none⟩)] 136 (0, 0))).alloc (.map #[] 0)).heap[w.heap.size]? = some (.cells #[.pointer (some ⟨P, 0, none⟩)] 136 (0, 0)) := (Below.heap_alloc _ _ _ (by simp)).trans (heap_alloc_new w _)
  go_upto_region 3 with (refine wpList_insert_is rfl (.tmp 8) (.const (.int .u16 0)) (.tmp 9) rfl undMap 0 (.agg #[.int .u16 0, .int .i64 0, .int .i64 0, .bool true]) rfl rfl rfl hm1 (by decide) rfl ?_; intro w2 hm2 hg2; have g1 := (hg2.block w.heap.size (by simp; omega) (by simp)).trans A0; have k1 := boxAt g1; have l1 := (Array.getElem?_eq_some_iff.1 g1).1; have l2 := hm2.lt; have G1 := Lib.hid g1; have Hm2 := Lib.hid hm2; have Hg2 := Lib.hid hg2; clear hm2 hg2 g1)
  have hb2 : Below w.heap.size w w2 := by
    have h0 : Below w.heap.size w ((w.alloc (.cells #[.pointer (some ⟨P, 0, none⟩)] 136 (0, 0))).alloc (.map #[] 0)) := two_below w _ _
    have hg := Hg2.out
    exact h0.trans ⟨hg.os, hg.tape, hg.output, hg.size, fun k hk => hg.block k (by simp; omega) (fun e => by injection e; omega)⟩
  have hs2 := hb2.size
  have hst : BestsAt d w (((w2.alloc (.cells #[.map (some (w.heap.size + 1))] 138 (0, 0))).alloc (.map #[] 0)).alloc (.cells #[.map (some (w2.heap.size + 1))] 195 (0, 0))) P w.heap.size w2.heap.size (w2.heap.size + 1 + 1) (w.heap.size + 1) (w2.heap.size + 1) 1 := by
    refine ⟨((hb2.alloc hs2 _).alloc (by simp; omega) _).alloc (by simp; omega) _, ?_, ?_, ?_, ?_, ?_, by omega, by omega, by omega⟩
    · exact (Below.heap_alloc _ _ _ (by simp; omega)).trans ((Below.heap_alloc _ _ _ (by simp; omega)).trans ((Below.heap_alloc _ _ _ l1).trans G1.out))
    · exact (Below.heap_alloc _ _ _ (by simp; omega)).trans ((Below.heap_alloc _ _ _ (by simp)).trans (heap_alloc_new w2 _))
    · have h := heap_alloc_new ((w2.alloc (.cells #[.map (some (w.heap.size + 1))] 138 (0, 0))).alloc (.map #[] 0)) (.cells #[.map (some (w2.heap.size + 1))] 195 (0, 0))
      simpa using h
    · exact ((Hm2.out.kept (Below.heap_alloc _ _ _ l2)).kept (Below.heap_alloc _ _ _ (by simp; omega))).kept (Below.heap_alloc _ _ _ (by simp; omega))
    · rw [legF_one]
      have h := mapIs_made (w2.alloc (.cells #[.map (some (w.heap.size + 1))] 138 (0, 0)))
      have e : (w2.alloc (.cells #[.map (some (w.heap.size + 1))] 138 (0, 0))).heap.size = w2.heap.size + 1 := by simp
      rw [e] at h
      exact h.kept (Below.heap_alloc _ _ _ (by simp))
  refine wp_name (fun W => BestsAt d w W P w.heap.size w2.heap.size (w2.heap.size + 1 + 1) (w.heap.size + 1) (w2.heap.size + 1) 1) hst (fun W hW => ?_)
  clear hst hb2 hs2 G1 Hm2 Hg2 k1 l1 l2 A0 hm1 mk
  generalize w2.heap.size + 1 + 1 = b4 at *
  generalize w2.heap.size + 1 = L at *
  generalize w2.heap.size = b3 at *
  obtain ⟨M, hMe⟩ : ∃ M, w.heap.size + 1 = M := ⟨_, rfl⟩
  rw [hMe] at hW ⊢
  have k1 := boxAt hW.c1
  have HW := Lib.hid hW
  have hev := Lib.hid (fun (V : World) (h : PlanAt V P d) => every_same P d V h (by have := Hd.out.segs; omega))
  clear hW hMe
  go_wp2
  go_loopw [6] (fun x wr => ∃ k : Nat, x = .int .u16 (k : Int) ∧ 1 ≤ k ∧ k ≤ 2 ^ segN d.blocks ∧ BestsAt d w wr P w.heap.size b3 b4 M L k) (fun x wr => 2 ^ segN d.blocks - (intOf x).toNat)
  case atStart => exact ⟨1, rfl, by omega, by omega, HW.out⟩
  case round =>
    obtain ⟨k, rfl, hk1, hk2, hR⟩ := hrel
    obtain ⟨wo, rfl⟩ : ∃ wo : World, wo = wr := ⟨_, rfl⟩
    have q1 := boxAt hR.c1
    have q3 := boxAt hR.c3
    have q4 := boxAt hR.c4
    have Hev := Lib.hid (hev.out _ (Hp.out.below hR.bel))
    have HR := Lib.hid hR
    clear hR
    by_cases hlt : k < 2 ^ segN d.blocks
    · have hle : (k : Int) ≤ (fullM (segN d.blocks) : Int) := by omega
      have Hc := (fun (V : World) (h : Below wo.heap.size wo V) => legal_any P k d V Hd.out (Hp.out.below (HR.out.bel.trans (h.mono HR.out.bel.size))) hlt (by omega))
      obtain ⟨lx, hlx⟩ : ∃ lx, legalX d k = lx := ⟨_, rfl⟩
      simp only [hlx] at Hc
      replace Hc := Lib.hid Hc
      have Hlx := Lib.hid hlx
      clear hlx
      go_wp2_with (go_at_call 57; refine Hev.out.mono ?_; rintro e w3 ⟨rfl, rfl⟩)
      refine wp_region_noPanic ?_
      refine wp_region_pick [0, 1, 2, 3] [4, 5] (fun _ => true) (fun w' => w'.cell? ⟨b4, 0, none⟩ = some (.map (some L))) (by kernel_rfl) (by kernel_rfl) (fun _ _ _ _ _ h => h) q4 (fun hne => ?_)
      have n0 := fun x : Meets (fun w' => w'.cell? ⟨b4, 0, none⟩ = some (.map (some L))) => x.property
      simp only [pick, pickN, List.filterMap_cons, List.filterMap_nil, List.getElem?_cons_zero, List.getElem?_cons_succ, Option.map_some]
      repeat (change wpQuiet _ _ _ _ (_ :: _) _; go_big_quiet_step (fail))
      refine wpQuiet_nil ?_
      clear n0 hne
      have hd0 : Below wo.heap.size wo wo.drew := (Below.refl _ _).drew
      refine wpSeqP_step (fun K hK => ?_)
      go_simp
      refine (Hc.out _ hd0).mono ?_
      rintro e w4 ⟨rfl, hb4⟩
      have hb4' := hd0.trans (hb4.mono hd0.size)
      have hR4 : BestsAt d w w4 P w.heap.size b3 b4 M L k := HR.out.turn (grown_of_below hb4' _) (HR.out.legals.kept (hb4'.block _ HR.out.legals.lt))
      refine hK.out _ _ (fun _ => boxAt hR4.c4) ?_
      clear hK K
      obtain ⟨w5, hrun, hl5, hg5⟩ := hR4.legals.upd undMapB (by omega : k < 65536) (legF_at d k) (.bool lx)
      refine wpSeqP_step (fun K hK => ?_)
      go_simp
      have hR5 : BestsAt d w w5 P w.heap.size b3 b4 M L (k + 1) := hR4.turn hg5 (by rw [legF_succ d hk1, Hlx.out]; exact hl5)
      refine hK.out _ _ (fun _ => boxAt hR5.c4) ?_
      clear hK K hrun
      have HR5 := Lib.hid hR5
      refine wpSeqP_nil ?_
      refine NoPanic.normal ?_
      clear hR4 hR5 hl5 hg5 hb4 hb4' hd0
      go_wp2
      go_roundw
      case rel => exact ⟨k + 1, by push_cast; rfl, by omega, by omega, HR5.out⟩
      case measure => simp [intOf]; omega
    · have hke : k = 2 ^ segN d.blocks := by omega
      have hle : decide ((k : Int) ≤ (fullM (segN d.blocks) : Int)) = false := by simp; omega
      have Hke := Lib.hid hke
      clear hke
      go_upto_region 10 with (go_at_call 57; refine Hev.out.mono ?_; rintro e w3 ⟨rfl, rfl⟩)
      have hst : FindAt w (wo.alloc (.cells #[.func (.func 97) #[] #[ptr b3, ptr b4, ptr wo.heap.size, ptr w.heap.size]] 196 (0, 0))) d P w.heap.size b3 b4 wo.heap.size M L F0 :=
        have hR := HR.out
        have ho : ∀ {c : Nat} {o : Obj}, wo.heap[c]? = some o → (wo.alloc (.cells #[.func (.func 97) #[] #[ptr b3, ptr b4, ptr wo.heap.size, ptr w.heap.size]] 196 (0, 0))).heap[c]? = some o := fun {c o} h => (Below.heap_alloc _ _ _ (Array.getElem?_eq_some_iff.1 h).1).trans h
        ⟨hR.bel.alloc hR.bel.size _, Hp.out, ho hR.c1, ho hR.c3, ho hR.c4, heap_alloc_new wo _, hR.known.kept (Below.heap_alloc _ _ _ hR.known.lt), by rw [← Hke.out]; exact hR.legals.kept (Below.heap_alloc _ _ _ hR.legals.lt), hR.hM, hR.ne, F0_val d, rfl, F0_next d⟩
      refine wp_name (fun V => FindAt w V d P w.heap.size b3 b4 wo.heap.size M L F0) hst (fun V hV => ?_)
      generalize wo.heap.size = b7 at *
      have hVd : FindAt w V.drew d P w.heap.size b3 b4 b7 M L F0 := hV.same (grown_of_below ((Below.refl _ _).drew) _)
      have hPd := Hp.out.below hVd.bel
      refine wp_region_noPanic ?_
      refine wp_region_pick [0, 1] [2, 3] (fun _ => true) (fun w' => w'.cell? ⟨b7, 0, none⟩ = some (.func (.func 97) #[] #[ptr b3, ptr b4, ptr b7, ptr w.heap.size]) ∧ w'.cell? ⟨w.heap.size, 0, none⟩ = some (.pointer (some ⟨P, 0, none⟩))) (by kernel_rfl) (by kernel_rfl) (fun _ _ _ _ _ h => h) ⟨boxAt hVd.c7, boxAt hVd.c1⟩ (fun hne => ?_)
      have n0 := fun x : Meets (fun w' => w'.cell? ⟨b7, 0, none⟩ = some (.func (.func 97) #[] #[ptr b3, ptr b4, ptr b7, ptr w.heap.size]) ∧ w'.cell? ⟨w.heap.size, 0, none⟩ = some (.pointer (some ⟨P, 0, none⟩))) => x.property.1
      have n1 := fun x : Meets (fun w' => w'.cell? ⟨b7, 0, none⟩ = some (.func (.func 97) #[] #[ptr b3, ptr b4, ptr b7, ptr w.heap.size]) ∧ w'.cell? ⟨w.heap.size, 0, none⟩ = some (.pointer (some ⟨P, 0, none⟩))) => x.property.2
      simp only [pick, pickN, List.filterMap_cons, List.filterMap_nil, List.getElem?_cons_zero, List.getElem?_cons_succ, Option.map_some]
      repeat (change wpQuiet _ _ _ _ (_ :: _) _; go_big_quiet_step (fail))
      refine wpQuiet_nil ?_
      clear n0 n1 hne
      have HVd := Lib.hid hVd
      refine wpSeqP_step (fun K hK => ?_)
      go_simp
      refine (hev.out _ hPd).mono ?_
      rintro e w4 ⟨rfl, rfl⟩
      refine hK.out _ _ (fun _ => ⟨boxAt hVd.c7, boxAt hVd.c1⟩) ?_
      clear hK K
      refine wpSeqP_step (fun K hK => ?_)
      go_simp
      refine (find_any d Hd.out w P w.heap.size b3 b4 b7 M L (fullM (segN d.blocks)) (by omega) _ F0 hVd).mono ?_
      rintro e w5 ⟨F5, rfl, hF5, _, _, _, hs5⟩
      refine hK.out _ _ (fun _ => ⟨boxAt hF5.c7, boxAt hF5.c1⟩) ?_
      clear hK K hV hVd hPd HVd hst
      have q3 := boxAt hF5.c3
      have HF5 := Lib.hid hF5
      have Hs5 := Lib.hid hs5
      clear hF5 hs5
      refine wpSeqP_nil ?_
      refine NoPanic.normal ?_
      go_wp2
      go_ret
      exact ⟨M, F5, rfl, ⟨HF5.out.known, HF5.out.val, HF5.out.next, Hs5.out⟩, HF5.out.bel⟩
end Go.Proofs.YtckgapeednokjaaGreat
namespace Go.Proofs.YtckgapeednokjaaGreat
open Go Go.Proofs Go.RowKit

/-! ### Barred -/
def barK (d : DDay) (k : Nat) : List Nat := (List.range k).filter fun s => !legalX d (2 ^ s)
theorem barK_succ (d : DDay) (k : Nat) : barK d (k + 1) = barK d k ++ if legalX d (2 ^ k) then [] else [k] := by
  unfold barK
  rw [List.range_succ, List.filter_append]
  cases h : legalX d (2 ^ k) <;> simp [h]
theorem barK_len (d : DDay) (k : Nat) : (barK d k).length ≤ k := by
  unfold barK
  exact Nat.le_trans (List.length_filter_le _ _) (by simp)
theorem barK_all (d : DDay) : barK d (segN d.blocks) = barredL d := by
  unfold barK barredL
  refine List.filter_congr fun s hs => ?_
  have h := bits_one (List.mem_range.1 hs)
  rw [Nat.one_shiftLeft] at h
  unfold legalX
  rw [h]
def GivesBarred (d : DDay) (w : World) (e : Ending) (w' : World) : Prop :=
  Below w.heap.size w w' ∧
  ((faultD d != 0) = true → e = .returned (.tuple #[.slice none 0 0, .int .i64 (faultD d)])) ∧
  ((faultD d != 0) = false → barredL d = [] → e = .returned (.tuple #[.slice none 0 0, .int .i64 7])) ∧
  ((faultD d != 0) = false → barredL d ≠ [] → ∃ A c, e = .returned (.tuple #[.slice A (barredL d).length c, .int .i64 0]) ∧ NumsAt .i64 w' (.slice A (barredL d).length c) (natsI (barredL d)))
theorem gb_fault {d : DDay} {w w' : World} {F : Int} (hf : (F != 0) = true) (hF : faultD d = F) (hb : Below w.heap.size w w') : GivesBarred d w (.returned (.tuple #[.slice none 0 0, .int .i64 F])) w' := by
  subst hF
  exact ⟨hb, fun _ => rfl, fun h => (by rw [hf] at h; cases h), fun h => (by rw [hf] at h; cases h)⟩
theorem gb_none {d : DDay} {w w' : World} (hf : (faultD d != 0) = false) (h0 : barredL d = []) (hb : Below w.heap.size w w') : GivesBarred d w (.returned (.tuple #[.slice none 0 0, .int .i64 7])) w' :=
  ⟨hb, fun h => (by rw [hf] at h; cases h), fun _ _ => rfl, fun _ h => absurd h0 h⟩
theorem gb_some {d : DDay} {w w' : World} {A : Option Addr} {c : Nat} {T : List Nat} (hf : (faultD d != 0) = false) (hT : barredL d = T) (h0 : T ≠ []) (hn : NumsAt .i64 w' (.slice A T.length c) (natsI T)) (hb : Below w.heap.size w w') : GivesBarred d w (.returned (.tuple #[.slice A T.length c, .int .i64 0])) w' := by
  subst hT
  exact ⟨hb, fun h => (by rw [hf] at h; cases h), fun _ h => absurd h h0, fun _ _ => ⟨A, c, rfl, hn⟩⟩
set_option maxRecDepth 100000 in
set_option maxHeartbeats 3200000 in
theorem Barred_any (d : DDay) (u z : Value) (w : World) (hda : DayAt w u z d) (hm : Mild d) : Calls Tryz.prog 24 #[.agg #[.int .i64 d.law.piece, .int .i64 d.law.drive, .int .i64 d.law.spread, .int .i64 d.law.brk, .int .i64 d.law.on, .int .i64 d.law.off, .int .i64 d.law.least, .int .i64 d.law.pieces, u, z]] w (GivesBarred d w) := by
  obtain ⟨A1, c1, rfl, _, _⟩ := hda.blocks.form
  obtain ⟨A2, c2, rfl, _, _⟩ := hda.walk.form
  have hb0 : Below w.heap.size w (w.alloc (.cells #[.int .i64 d.law.piece, .int .i64 d.law.drive, .int .i64 d.law.spread, .int .i64 d.law.brk, .int .i64 d.law.on, .int .i64 d.law.off, .int .i64 d.law.least, .int .i64 d.law.pieces, .slice A1 d.blocks.length c1, .slice A2 d.walk.length c2] 73)) := (Below.refl _ _).alloc (Nat.le_refl _) _
  have Hc := Lib.hid (CheckDay_any d _ _ _ (hda.below hb0) hm)
  cases hf : (faultD d != 0) with
  | true =>
    have Hf := Lib.hid hf
    clear hda
    generalize hF : faultD d = F at *
    have HF := Lib.hid hF
    clear hF
    go_enter Tryz.func24, Tryz.ntmps24
    go_wp2_with (go_at_call 54; refine Hc.out.mono ?_; rintro e w1 ⟨rfl, hb1⟩)
    go_ret2
    exact gb_fault Hf.out HF.out (hb0.trans (hb1.mono hb0.size))
  | false =>
    have hd := fault_ok hf
    have h0 : faultD d = 0 := by simpa using hf
    rw [h0] at Hc
    have hsn := hd.segs
    have Hf := Lib.hid hf
    have Hd := Lib.hid hd
    have Hda := Lib.hid hda
    clear hf h0 hd hda
    obtain ⟨i0, hi0, hz0, hz1, hz2⟩ := info_parts infoI
    go_enter Tryz.func24, Tryz.ntmps24
    go_wp2_with fail
    refine Hc.out.mono ?_
    rintro e w1 ⟨rfl, hb1⟩
    have hw1 := hb0.trans (hb1.mono hb0.size)
    obtain ⟨gc, gf⟩ := bcell hb1
    clear Hc
    go_wp2_with fail
    refine (plan_any d _ _ _ (Hda.out.below hw1) hm).mono ?_
    rintro e w2 ⟨P, rfl, hp, hP, hb2⟩
    have hw2 := hw1.trans (hb2.mono hw1.size)
    obtain ⟨_, _, A4, _, _, c4, _, _, _, p10, _, _, _, _⟩ := hp.cells
    have hPl := hp.lt
    have Hp := Lib.hid hp
    clear gc gf hp
    go_wp2
    go_loopw [6, 20] (fun v j wr => ∃ (k : Nat) (A : Option Addr) (c : Nat), k ≤ segN d.blocks ∧ j = .int .i64 k ∧ v = .slice A (barK d k).length c ∧ Below w2.heap.size w2 wr ∧ wr.ownsRow w2.heap.size 3 1 v (barK d k).length ((natsI (barK d k)).map (.int .i64))) (fun v j wr => segN d.blocks - (intOf j).toNat)
    case atStart => exact ⟨0, none, 0, by omega, rfl, rfl, Below.refl _ _, by simpa [natsI, barK] using World.ownsRow_nil w2 w2.heap.size 3 1⟩
    case round =>
      obtain ⟨k, A, c, hk, rfl, rfl, hb, hown⟩ := hrel
      obtain ⟨wq, rfl⟩ : ∃ wq : World, wq = wr := ⟨_, rfl⟩
      have hle := barK_len d k
      have hqs := hb.size
      by_cases hlt : k < segN d.blocks
      · have Hl := Lib.hid (barK_succ d k)
        have hx : (2 : Nat) ^ k < 2 ^ segN d.blocks := Nat.pow_lt_pow_right (by omega) hlt
        have qw := wrap_pow (m := k) (by omega)
        have Hcall := Lib.hid (legal_any P (2 ^ k) d wq Hd.out (Hp.out.below hb) hx (by have := Nat.two_pow_pos k; omega))
        obtain ⟨X, hX⟩ : ∃ X : Nat, X = 2 ^ k := ⟨_, rfl⟩
        rw [← hX] at Hcall Hl qw
        clear hx hX
        generalize barK d k = S at *
        cases h1 : legalX d X with
        | true =>
          rw [h1] at Hcall Hl
          have Hown := Lib.hid hown
          clear hown h1
          go_wp2_with (go_at_call 60; refine Hcall.out.mono ?_; rintro e w3 ⟨rfl, hb3⟩)
          go_roundw
          case rel => exact ⟨k + 1, A, c, by omega, by go_num, by rw [Hl.out]; simp, hb.trans (hb3.mono hqs), by rw [Hl.out]; simpa using own_below Hown.out hb3⟩
          case measure => simp [intOf]; omega
        | false =>
          rw [h1] at Hcall Hl
          have Hown := Lib.hid hown
          clear hown h1
          go_wp2_with (first
            | (go_at_call 60; refine Hcall.out.mono ?_; rintro e w3 ⟨rfl, hb3⟩; have Ho3 := Lib.hid (own_below Hown.out hb3); have hs3 := hb3.size)
            | (at_builtin; go_loud (refine wpList_append_src _ rfl (.tmp 29) (.tmp 31) 29 rfl w2.heap.size 3 i0 _ 1 8 Tryz.underlying29 hi0 hz0 hz1 hz2 rfl (by omega) _ S.length _ rfl (Ho3.out.alloc _) (some ⟨w3.heap.size, 0, none⟩) 1 1 [.int .i64 (k : Int)] rfl (src_new _ _ _ _ _ rfl) (by simp [Value.oneCell']) (by simp [maxLen]; omega) (by omega) (by simp; omega) ?_; intro v1 w4 hown1 hg1 hat1; have Hg1 := Lib.hid hg1; obtain ⟨AA1, cc1, rfl⟩ := own_form hown1; have Hown1 := Lib.hid hown1; clear hown1 hg1 hat1)))
          go_roundw
          case rel =>
            have hbb := hb.trans (hb3.mono hqs)
            refine ⟨k + 1, AA1, cc1, by omega, by go_num, ?_, (hbb.alloc hbb.size _).grown Hg1.out (by simp; omega) fun q hq => (Ho3.out.lt q hq).1, ?_⟩
            · rw [Hl.out]; simp
            · rw [Hl.out]
              have := Hown1.out
              simpa [natsI] using this
          case measure => simp [intOf]; omega
      · obtain rfl : k = segN d.blocks := by omega
        have Hall := Lib.hid (barK_all d)
        have Hown := Lib.hid hown
        generalize barK d (segN d.blocks) = S at *
        have hbe := hw2.trans (hb.mono hw2.size)
        clear hown
        cases S with
        | nil =>
          go_wp2
          go_ret2
          exact gb_none Hf.out Hall.out.symm hbe
        | cons a t =>
          have hz : ((((a :: t).length : Nat) : Int) == 0) = false := by simp; omega
          generalize hT : a :: t = T at *
          go_wp2
          go_ret2
          exact gb_some Hf.out Hall.out.symm (by rw [← hT]; simp) (by have h := nums_of_own (K := .i64) Hown.out; simpa [natsI] using h) hbe
end Go.Proofs.YtckgapeednokjaaGreat
namespace Go.Proofs.YtckgapeednokjaaGreat
open Go Go.Proofs Go.RowKit

/-! ### The closures of Bound -/
/-- The weight of some segments. -/
def wgL (ws : List Int) (l : List Nat) : Int := sumL (l.map fun s => ws[s]?.getD 0)
theorem wgL_take {ws : List Int} {l : List Nat} {k s : Nat} {x : Int} (h : l[k]? = some s) (hx : ws[s]? = some x) : wgL ws (l.take (k + 1)) = wgL ws (l.take k) + x := by
  unfold wgL
  rw [List.map_take, List.map_take]
  refine sumL_take ?_
  rw [List.getElem?_map, h]
  simp [hx]
theorem wgL_bd {ws : List Int} (hw : ∀ x ∈ ws, 0 ≤ x ∧ x ≤ 1000000) (l : List Nat) (hl : l.length ≤ 1000) : 0 ≤ wgL ws l ∧ wgL ws l ≤ 1000000000 := by
  have h := sumL_bound (l := l.map fun s => ws[s]?.getD 0) (M := 1000000) (by omega) fun x hx => by
    obtain ⟨s, _, rfl⟩ := List.mem_map.1 hx
    cases e : ws[s]? with
    | none => simp
    | some y => simpa using hw y (List.mem_of_getElem? e)
  rw [List.length_map] at h
  unfold wgL
  constructor
  · exact h.1
  · have : (l.length : Int) * 1000000 ≤ 1000 * 1000000 := Int.mul_le_mul_of_nonneg_right (by omega) (by omega)
    omega
end Go.Proofs.YtckgapeednokjaaGreat
namespace Go.Proofs.YtckgapeednokjaaGreat
open Go Go.Proofs Go.RowKit

/-! ### Bound -/
def wgX (d : DDay) (ws : List Int) (x : Nat) : Int := wgL ws (bitsL (segN d.blocks) x)
theorem bits_ten {n x : Nat} (hn : n ≤ 10) (hx : x < 2 ^ n) : bitsL 10 x = bitsL n x := by
  refine asc_unique (bitsL_asc _ _) (bitsL_asc _ _) fun i => ?_
  rw [mem_bitsL, mem_bitsL]
  constructor
  · rintro ⟨h1, h2⟩
    refine ⟨Nat.not_le.1 fun h => ?_, h2⟩
    have := Nat.testBit_lt_two_pow (Nat.lt_of_lt_of_le hx (Nat.pow_le_pow_right (n := 2) (by omega) h))
    rw [h2] at this
    cases this
  · rintro ⟨h1, h2⟩
    exact ⟨by omega, h2⟩
def capB (d : DDay) (ws : List Int) : Bool := decide (ws.length = segN d.blocks) && ws.all fun x => inB x 0 1000000
/-- No legal duty below k weighs too much. -/
def fairK (d : DDay) (ws : List Int) (k : Nat) : Bool := (List.range k).all fun x => x == 0 || !(decide (1000 < wgX d ws x) && legalX d x)
theorem fairK_succ (d : DDay) (ws : List Int) (k : Nat) : fairK d ws (k + 1) = (fairK d ws k && (k == 0 || !(decide (1000 < wgX d ws k) && legalX d k))) := by
  unfold fairK
  rw [List.range_succ, List.all_append]
  simp
theorem fairK_not {d : DDay} {ws : List Int} {k n : Nat} (hk : k < n) (h0 : k ≠ 0) (h1 : 1000 < wgX d ws k) (h2 : legalX d k = true) : fairK d ws n = false := by
  rw [Bool.eq_false_iff]
  intro h
  have := List.all_eq_true.1 h k (List.mem_range.2 hk)
  simp [h0, h1, h2] at this
def boundQ (d : DDay) (ws : List Int) : Int × Int :=
  if faultD d != 0 then (0, faultD d) else if capB d ws then (if fairK d ws (2 ^ segN d.blocks) then ((wgX d ws (fullM (segN d.blocks)) + 999) / 1000, 0) else (0, 9)) else (0, 2)
end Go.Proofs.YtckgapeednokjaaGreat
namespace Go.Proofs.YtckgapeednokjaaGreat
open Go Go.Proofs Go.RowKit

/-! ### Bound of a valid day -/
theorem fairK_zero (d : DDay) (ws : List Int) : fairK d ws 1 = true := rfl
end Go.Proofs.YtckgapeednokjaaGreat
namespace Go.Proofs.YtckgapeednokjaaGreat
open Go Go.Proofs Go.RowKit

/-! ### Best -/
def GivesBest (d : DDay) (w : World) (e : Ending) (w' : World) : Prop :=
  Below w.heap.size w w' ∧
  ((faultD d != 0) = true → e = .returned (.tuple #[.slice none 0 0, .int .i64 0, .int .i64 (faultD d)])) ∧
  ((faultD d != 0) = false → (bestV d).can = false → e = .returned (.tuple #[.slice none 0 0, .int .i64 0, .int .i64 9])) ∧
  ((faultD d != 0) = false → (bestV d).can = true → ∃ A c, e = .returned (.tuple #[.slice A (bestP d).length c, .int .i64 (bestV d).pay, .int .i64 0]) ∧ RowsAt w' (.slice A (bestP d).length c) ((bestP d).map natsI))
theorem gbest_fault {d : DDay} {w w' : World} {F : Int} (hf : (F != 0) = true) (hF : faultD d = F) (hb : Below w.heap.size w w') : GivesBest d w (.returned (.tuple #[.slice none 0 0, .int .i64 0, .int .i64 F])) w' := by
  subst hF
  exact ⟨hb, fun _ => rfl, fun h => (by rw [hf] at h; cases h), fun h => (by rw [hf] at h; cases h)⟩
theorem gbest_none {d : DDay} {w w' : World} (hf : (faultD d != 0) = false) (h0 : (bestV d).can = false) (hb : Below w.heap.size w w') : GivesBest d w (.returned (.tuple #[.slice none 0 0, .int .i64 0, .int .i64 9])) w' :=
  ⟨hb, fun h => (by rw [hf] at h; cases h), fun _ _ => rfl, fun _ h => (by rw [h0] at h; cases h)⟩
theorem gbest_some {d : DDay} {w w' : World} {A : Option Addr} {c n : Nat} {p : Int} (hf : (faultD d != 0) = false) (h0 : (bestV d).can = true) (hn : (bestP d).length = n) (hp : (bestV d).pay = p) (hr : RowsAt w' (.slice A n c) ((bestP d).map natsI)) (hb : Below w.heap.size w w') : GivesBest d w (.returned (.tuple #[.slice A n c, .int .i64 p, .int .i64 0])) w' := by
  subst hn hp
  exact ⟨hb, fun h => (by rw [hf] at h; cases h), fun _ h => (by rw [h0] at h; cases h), fun _ _ => ⟨A, c, rfl, hr⟩⟩
set_option maxRecDepth 100000 in
theorem Best_fault (d : DDay) (u z : Value) (w : World) (hda : DayAt w u z d) (hm : Mild d) (hf : (faultD d != 0) = true) :
    Calls Tryz.prog 22 #[.agg #[.int .i64 d.law.piece, .int .i64 d.law.drive, .int .i64 d.law.spread, .int .i64 d.law.brk, .int .i64 d.law.on, .int .i64 d.law.off, .int .i64 d.law.least, .int .i64 d.law.pieces, u, z]] w (GivesBest d w) := by
  obtain ⟨A1, c1, rfl, _, _⟩ := hda.blocks.form
  obtain ⟨A2, c2, rfl, _, _⟩ := hda.walk.form
  have hb0 : Below w.heap.size w (w.alloc (.cells #[.int .i64 d.law.piece, .int .i64 d.law.drive, .int .i64 d.law.spread, .int .i64 d.law.brk, .int .i64 d.law.on, .int .i64 d.law.off, .int .i64 d.law.least, .int .i64 d.law.pieces, .slice A1 d.blocks.length c1, .slice A2 d.walk.length c2] 73)) := (Below.refl _ _).alloc (Nat.le_refl _) _
  have Hc := Lib.hid (CheckDay_any d _ _ _ (hda.below hb0) hm)
  have Hf := Lib.hid hf
  clear hda
  generalize hF : faultD d = F at *
  have HF := Lib.hid hF
  clear hF
  go_enter Tryz.func22, Tryz.ntmps22
  go_wp2_with (go_at_call 54; refine Hc.out.mono ?_; rintro e w1 ⟨rfl, hb1⟩)
  go_ret3
  exact gbest_fault Hf.out HF.out (hb0.trans (hb1.mono hb0.size))
theorem xor_lt16 {a b n : Nat} (h : a < 2 ^ n) (hb : b < 2 ^ n) : a ^^^ b < 2 ^ n := Nat.xor_lt_two_pow h hb
set_option maxRecDepth 100000 in
set_option maxHeartbeats 3200000 in
theorem Best_ok (d : DDay) (u z : Value) (w : World) (hda : DayAt w u z d) (hm : Mild d) (hf : (faultD d != 0) = false) :
    Calls Tryz.prog 22 #[.agg #[.int .i64 d.law.piece, .int .i64 d.law.drive, .int .i64 d.law.spread, .int .i64 d.law.brk, .int .i64 d.law.on, .int .i64 d.law.off, .int .i64 d.law.least, .int .i64 d.law.pieces, u, z]] w (GivesBest d w) := by
  obtain ⟨A1, c1, rfl, _, _⟩ := hda.blocks.form
  obtain ⟨A2, c2, rfl, _, _⟩ := hda.walk.form
  have hb0 : Below w.heap.size w (w.alloc (.cells #[.int .i64 d.law.piece, .int .i64 d.law.drive, .int .i64 d.law.spread, .int .i64 d.law.brk, .int .i64 d.law.on, .int .i64 d.law.off, .int .i64 d.law.least, .int .i64 d.law.pieces, .slice A1 d.blocks.length c1, .slice A2 d.walk.length c2] 73)) := (Below.refl _ _).alloc (Nat.le_refl _) _
  have Hc := CheckDay_any d _ _ _ (hda.below hb0) hm
  have h0 : faultD d = 0 := by simpa using hf
  rw [h0] at Hc
  have Hc := Lib.hid Hc
  have hd := fault_ok hf
  have hsn := hd.segs
  have Hf := Lib.hid hf
  have Hd := Lib.hid hd
  have Hda := Lib.hid hda
  have hN : 2 ^ segN d.blocks ≤ 1024 := Nat.pow_le_pow_right (n := 2) (by omega) (by omega : segN d.blocks ≤ 10)
  have hN1 := Nat.two_pow_pos (segN d.blocks)
  have hfull : fullM (segN d.blocks) + 1 = 2 ^ segN d.blocks := by unfold fullM; omega
  clear hf h0 hd hda
  obtain ⟨i0, hi0, hz0, hz1, hz2⟩ := info_parts infoR
  have hfld : ∀ (w : World) (a b c : Int) (e : Bool), (Instr.field 146 (.agg #[.int .u16 a, .int .i64 b, .int .i64 c, .bool e]) 0).run Tryz.prog w = .ok (.int .u16 a) w := fun _ _ _ _ _ => by kernel_rfl
  go_enter Tryz.func22, Tryz.ntmps22
  go_wp2_with fail
  refine Hc.out.mono ?_
  rintro e w1 ⟨rfl, hb1⟩
  have hw1 := hb0.trans (hb1.mono hb0.size)
  obtain ⟨gc, gf⟩ := bcell hb1
  clear Hc
  go_wp2_with fail
  refine (plan_any d _ _ _ (Hda.out.below hw1) hm).mono ?_
  rintro e w2 ⟨P, rfl, hp, hP, hb2⟩
  have hw2 := hw1.trans (hb2.mono hw1.size)
  clear gc gf
  go_wp2_with fail
  refine (bests_any P d _ Hd.out hp).mono ?_
  rintro e w3 ⟨M, F, rfl, hk, hb3⟩
  have hw3 := hw2.trans (hb3.mono hw2.size)
  have hp3 := hp.below hb3
  have hval : ∀ x, (F x).isSome = true → (F x).getD (.agg #[.int .u16 0, .int .i64 0, .int .i64 0, .bool false]) = bvV (S d x) := fun x hx => by
    cases h : F x with
    | none => rw [h] at hx; cases hx
    | some v => exact hk.val x v h
  have Hval := Lib.hid hval
  have HK := Lib.hid hk
  clear hval hk hp
  go_wp2_with fail
  refine (every_same P d _ hp3 (by omega)).mono ?_
  rintro e w4 ⟨rfl, rfl⟩
  have hv0 : (F (fullM (segN d.blocks))).getD (.agg #[.int .u16 0, .int .i64 0, .int .i64 0, .bool false]) = .agg #[.int .u16 ((bestV d).first : Int), .int .i64 (bestV d).n, .int .i64 (bestV d).pay, .bool (bestV d).can] := Hval.out _ HK.out.full
  have hsz3 := hw3.size
  cases hcan : (bestV d).can with
  | false =>
    rw [hcan] at hv0
    have Hv0 := Lib.hid hv0
    have Hcan := Lib.hid hcan
    clear hv0 hcan
    go_wp2_with (at_lookup; refine wpList_look_is rfl (.tmp 22) (.tmp 23) rfl undMap (zeroBest _) (fullM (segN d.blocks)) rfl rfl HK.out.known (by omega) ?_; rw [Hv0.out])
    go_ret3
    exact gbest_none Hf.out Hcan.out (hw3.alloc hw3.size _)
  | true =>
    rw [hcan] at hv0
    have Hv0 := Lib.hid hv0
    have Hcan := Lib.hid hcan
    clear hv0 hcan
    obtain ⟨V1, hV1⟩ : ∃ V, (bestV d).first = V := ⟨_, rfl⟩
    obtain ⟨V2, hV2⟩ : ∃ V, (bestV d).n = V := ⟨_, rfl⟩
    obtain ⟨V3, hV3⟩ : ∃ V, (bestV d).pay = V := ⟨_, rfl⟩
    rw [hV1, hV2, hV3] at Hv0
    have HV3 := Lib.hid hV3
    clear hV1 hV2 hV3
    go_wp2_with (at_lookup; refine wpList_look_is rfl (.tmp 22) (.tmp 23) rfl undMap (zeroBest _) (fullM (segN d.blocks)) rfl rfl HK.out.known (by omega) ?_; rw [Hv0.out])
    refine wp_name (fun W => Below w3.heap.size w3 W ∧ W.cell? ⟨w3.heap.size, 2, none⟩ = some (.int .i64 V3) ∧ w3.heap.size < W.heap.size) ?_ (fun W hW => ?_)
    · exact ⟨(Below.refl _ _).alloc (Nat.le_refl _) _, by simp [go_sem], by simp⟩
    obtain ⟨hbW, c2', hszW⟩ := hW
    have hwW := hw3.trans (hbW.mono hw3.size)
    have C2 := Lib.hid c2'
    clear c2' Hv0
    have hst : canS (legalX d) (payX d) (fullM (segN d.blocks)) := best_can (by omega) Hcan.out
    have HM := Lib.hid (HK.out.known.kept (hbW.block _ HK.out.known.lt))
    go_loopw [2, 8] (fun v x wr => ∃ (l : Nat) (pre : List Nat) (A : Option Addr) (c : Nat) (us : List Value), x = .int .u16 (l : Int) ∧ v = .slice A pre.length c ∧ Below W.heap.size W wr ∧ wr.ownsRow W.heap.size 29 1 v pre.length us ∧
      RowsOwn wr W.heap.size us (pre.map fun x => natsI (bitsL (segN d.blocks) x)) ∧ canS (legalX d) (payX d) l ∧ (F l).isSome = true ∧ l < 2 ^ segN d.blocks ∧ pre.length ≤ 1024 ∧ pre.length + l ≤ 1024 ∧ Hid (pre ++ chain (legalX d) (payX d) l = bestD d)) (fun v x wr => (intOf x).toNat)
    case atStart => exact ⟨_, [], none, 0, [], rfl, rfl, Below.refl _ _, World.ownsRow_nil _ _ _ _, ⟨rfl, by intro j l h; simp at h⟩, hst, HK.out.full, by omega, by simp, by simp; omega, rfl⟩
    case round =>
      obtain ⟨l, pre, A, c, us, rfl, rfl, hb, hown, hro, hcl, hF, hl, hp1, hp2, hch⟩ := hrel
      obtain ⟨wo, rfl⟩ : ∃ wo : World, wo = wr := ⟨_, rfl⟩
      have Hro := Lib.hid hro
      have HF := Lib.hid hF
      have Hcl := Lib.hid hcl
      have hbo := hwW.trans (hb.mono hwW.size)
      have HMo := Lib.hid (HM.out.kept (hb.block _ HM.out.lt))
      clear hro hF hcl
      by_cases h0 : l = 0
      · subst h0
        have c2o := cell_below hb C2.out
        have f2 := Later.cell c2o
        go_wp2_with fail
        refine wp_region_later (by kernel_rfl) (by kernel_rfl) ?_
        repeat (go_big_quiet_step (fail))
        refine wpQuiet_nil ?_
        intro w4 hx4
        have hb4 := Later.out hx4
        clear hx4 f2
        have hpre : pre = bestD d := by
          have := hch
          rw [chain_zero, List.append_nil] at this
          exact this
        have Hr := Lib.hid (rows_of_own (own_below hown hb4) (Hro.out.below hb4))
        have Hpre := Lib.hid hpre
        clear hown hpre
        go_wp2
        go_ret3
        refine gbest_some Hf.out Hcan.out (by unfold bestP; rw [← Hpre.out]; simp) HV3.out ?_ (hbo.trans (hb4.mono hbo.size))
        have h := Hr.out
        have e : (bestP d).map natsI = pre.map fun x => natsI (bitsL (segN d.blocks) x) := by
          unfold bestP
          rw [← Hpre.out, List.map_map]
          rfl
        rw [e]
        simpa using h
      · obtain ⟨hsub, hf0, hfl, hfb, hlt, hcn, _, _⟩ := canS_next Hcl.out h0
        have hn := chain_step Hcl.out h0
        have hFn : (F (l ^^^ firstS (legalX d) (payX d) l)).isSome = true := HK.out.next l HF.out h0 Hcl.out.2
        have hv : (F l).getD (.agg #[.int .u16 0, .int .i64 0, .int .i64 0, .bool false]) = .agg #[.int .u16 (firstS (legalX d) (payX d) l : Int), .int .i64 (S d l).n, .int .i64 (S d l).pay, .bool (S d l).can] := Hval.out l HF.out
        have hxl := sub_le hsub
        obtain ⟨X, hX⟩ : ∃ X, firstS (legalX d) (payX d) l = X := ⟨_, rfl⟩
        rw [hX] at hsub hf0 hlt hcn hn hFn hv hxl
        have hX16 : X < 65536 := by omega
        have hz : ((l : Int) != 0) = true := by simp; omega
        have hxor := bits_xor_u16 l X (by omega) hX16
        have hbt : bitsL 10 X = bitsL (segN d.blocks) X := bits_ten hsn (by omega)
        have Hbt := Lib.hid hbt
        have Hv := Lib.hid hv
        have Hn := Lib.hid hn
        have HFn := Lib.hid hFn
        have Hcn := Lib.hid hcn
        have hsz := hb.size
        clear hX hsub hf0 hfl hfb hcn hn hFn hv hbt
        generalize l ^^^ X = Y at *
        go_wp2_with (first
          | (at_lookup; refine wpList_look_is rfl (.tmp 30) (.tmp 31) rfl undMap (zeroBest _) l rfl rfl HMo.out (by omega) ?_; rw [Hv.out])
          | (go_at_call 58; refine (list_any X _ hX16).mono ?_; rintro e w1x ⟨AX, cX, rfl, hox, hbx⟩; have Hox := Lib.hid hox; have hown1 := own_below hown hbx; have hsx := hbx.size; clear hox)
          | (at_builtin; refine wpList_append_src _ rfl (.tmp 34) (.tmp 37) 45 rfl W.heap.size 29 i0 _ 1 24 Tryz.underlying45 hi0 hz0 hz1 hz2 rfl (by omega) _ pre.length us rfl (hown1.alloc _) (some ⟨w1x.heap.size, 0, none⟩) 1 1 [.slice AX (natsI (bitsL 10 X)).length cX] rfl (src_new w1x [.slice AX (natsI (bitsL 10 X)).length cX] 29 1 1 rfl) (by simp [Value.oneCell']) (by simp [maxLen]; omega) (by omega) (by simp; omega) ?_; intro v2 w2x hown2 hg2 hat2; obtain ⟨A2x, c2x, rfl⟩ := own_form hown2))
        have hbw1 : Below W.heap.size W w1x := hb.trans (hbx.mono hb.size)
        have hba : Below W.heap.size W (w1x.alloc (.cells #[.slice AX (natsI (bitsL 10 X)).length cX] 29)) := hbw1.alloc hbw1.size _
        have hg3 : (w1x.alloc (.cells #[.slice AX (natsI (bitsL 10 X)).length cX] 29)).grownBy w2x (Value.slice A pre.length c).ownBlock := hg2
        clear hg2
        go_roundw
        case rel =>
          refine ⟨Y, pre ++ [X], A2x, c2x, us ++ [.slice AX (natsI (bitsL 10 X)).length cX], rfl, by simp, below_grown hba hg3 (by have := hbw1.size; simp; omega) (hown1.alloc _) (Nat.le_refl _), by simpa using hown2, ?_, Hcn.out, HFn.out, by omega, by simp; omega, by simp; omega, ?_⟩
          · have h1 : RowsOwn (w1x.alloc (.cells #[.slice AX (natsI (bitsL 10 X)).length cX] 29)) W.heap.size us (pre.map fun x => natsI (bitsL (segN d.blocks) x)) := (Hro.out.below hbx).below ((Below.refl _ _).alloc (Nat.le_refl _) _)
            rw [List.map_append]
            refine (h1.kept (hown1.alloc _) (by decide) hg3).snoc ?_
            show w2x.ownsRow W.heap.size 3 1 (.slice AX (natsI (bitsL 10 X)).length cX) (natsI (bitsL (segN d.blocks) X)).length ((natsI (bitsL (segN d.blocks) X)).map (.int .i64))
            rw [← Hbt.out]
            exact (((own_mono Hox.out hsz).alloc _).kept hg3 (own_apart Hox.out hown1 (by decide)))
          · show (pre ++ [X]) ++ _ = _
            have := hch
            rw [Hn.out] at this
            rw [List.append_assoc]
            exact this
        case measure => simp [intOf]; omega
theorem Best_any (d : DDay) (u z : Value) (w : World) (hda : DayAt w u z d) (hm : Mild d) :
    Calls Tryz.prog 22 #[.agg #[.int .i64 d.law.piece, .int .i64 d.law.drive, .int .i64 d.law.spread, .int .i64 d.law.brk, .int .i64 d.law.on, .int .i64 d.law.off, .int .i64 d.law.least, .int .i64 d.law.pieces, u, z]] w (GivesBest d w) := by
  cases hf : (faultD d != 0) with
  | true => exact Best_fault d u z w hda hm hf
  | false => exact Best_ok d u z w hda hm hf
end Go.Proofs.YtckgapeednokjaaGreat
