import Derived.Test.YtckgapeednokjaaGreatUm
import Derived.Maps.OwnSet
import Derived.Maps.Ext
import Derived.WideKeyArgs
import Derived.DeepKeys4
import Derived.MapViews
set_option linter.unusedVariables false
set_option linter.unusedSimpArgs false
namespace Go.Proofs.YtckgapeednokjaaGreat
open Go Go.Proofs Go.RowKit

open Go.ChangeMaps Go.MapKept
open Go.Maps (Keyed has)

/-! ### A map as a partial function -/
def heldE : Value → Option (DataW Value × List MemPlace) := fun v => some (.held v, [])
open Classical in
noncomputable def updV (F : Value → Option Value) (x v : Value) : Value → Option Value := fun y => if y = x then some v else F y
theorem updV_same (F : Value → Option Value) (x v : Value) : updV F x v x = some v := if_pos rfl
theorem updV_other {F : Value → Option Value} {x y v : Value} (h : y ≠ x) : updV F x v y = F y := if_neg h
/-- Block b is a map of at most n entries that holds just F. -/
def MapN (K : TypeId) (w : World) (b n : Nat) (F : Value → Option Value) : Prop :=
  ∃ D, w.ownsMap Tryz.prog K heldE b n D ∧ ∀ v l, keyOf Tryz.prog K v = some l → has D l = (F v).isSome ∧ ∀ z, D.atKey l (.held z) = .held ((F v).getD z)
section
variable {K : TypeId} {w w' : World} {b n : Nat} {F : Value → Option Value}
theorem mapN_made (K : TypeId) (w : World) : MapN K (w.alloc (.map #[] 0)) w.heap.size 0 fun _ => none :=
  ⟨.map [], World.ownsMap_made _ _ _ _, fun v l _ => ⟨rfl, fun z => rfl⟩⟩
theorem MapN.lt (h : MapN K w b n F) : b < w.heap.size := by
  obtain ⟨D, h, _⟩ := h
  exact h.lt
theorem MapN.mono (h : MapN K w b n F) {m : Nat} (hm : n ≤ m) : MapN K w b m F := by
  obtain ⟨D, h, h2⟩ := h
  exact ⟨D, h.mono hm, h2⟩
theorem MapN.kept (h : MapN K w b n F) (e : w'.heap[b]? = w.heap[b]?) : MapN K w' b n F := by
  obtain ⟨D, ⟨es, clock, hb, r⟩, h2⟩ := h
  exact ⟨D, ⟨es, clock, e.trans hb, r⟩, h2⟩
theorem MapN.notCells (h : MapN K w b n F) {c : Nat} {xs : Array Value} {t : TypeId} {fr : Nat × Nat} (hc : w.heap[c]? = some (.cells xs t fr)) : c ≠ b := by
  rintro rfl
  obtain ⟨D, ⟨es, clock, hb, r⟩, h2⟩ := h
  rw [hc] at hb
  cases hb
theorem MapN.look (hK : Keyed Tryz.prog K) (h : MapN K w b n F) {t e : TypeId} {z : Value} (ht : Tryz.prog.underlying t = some (.map K e)) (hz : (zeroValue e).run Tryz.prog w = .ok z w) {x : Value} {l : Lit} (hx : keyOf Tryz.prog K x = some l) :
    (Instr.lookup t (.map (some b)) x false).run Tryz.prog w = .ok ((F x).getD z) w ∧ (Instr.lookup t (.map (some b)) x true).run Tryz.prog w = .ok (.tuple #[(F x).getD z, .bool (F x).isSome]) w := by
  obtain ⟨D, h1, h3⟩ := h
  obtain ⟨k1, k2⟩ := h3 x l hx
  obtain ⟨v, ps, r1, r2⟩ := h1.lookup hK ht hz (zd := .held z) (zp := []) rfl hx
  obtain ⟨v', ps', r3, r4⟩ := h1.look_ok hK ht hz (zd := .held z) (zp := []) rfl hx
  rw [k2 z] at r2 r4
  rw [k1] at r3
  unfold heldE at r2 r4
  cases r2
  cases r4
  exact ⟨r1, r3⟩
theorem MapN.upd (hK : Keyed Tryz.prog K) (h : MapN K w b n F) {t e : TypeId} (ht : Tryz.prog.underlying t = some (.map K e)) (hn : n < maxLen) {x : Value} {l : Lit} (hx : keyOf Tryz.prog K x = some l) (v : Value) :
    ∃ w', (Instr.mapUpdate t (.map (some b)) x v).run Tryz.prog w = .ok () w' ∧ MapN K w' b (n + 1) (updV F x v) ∧ w.grownBy w' (some b) := by
  obtain ⟨D, h1, h3⟩ := h
  obtain ⟨w', r1, r2, r3⟩ := h1.update hK ht hn hx (d := .held v) (ps := []) (val := v) rfl
  refine ⟨w', r1, ⟨_, r2, fun y m hy => ?_⟩, r3⟩
  by_cases e : y = x
  · subst e
    rw [hx] at hy
    cases hy
    rw [updV_same]
    exact ⟨Maps.has_put_same h1.isMap (hK.key hx) _, fun z => Maps.atKey_put_same h1.isMap (hK.key hx) _ _⟩
  · rw [updV_other e]
    have hne : m ≠ l := fun h => e (hK.inj hy (h ▸ hx))
    rw [Maps.has_put_other hne]
    obtain ⟨k1, k2⟩ := h3 y m hy
    exact ⟨k1, fun z => (Maps.atKey_put_other hne _ _).trans (k2 z)⟩
end
section
variable {K : TypeId} {w : World} {b n : Nat} {F : Value → Option Value} {ops : Array Oper} {rest : List Oper} {o : Oper} {a : Act} {Q : Exit → Act → World → Prop}
theorem wpList_look_v (hK : Keyed Tryz.prog K) {t e : TypeId} (hg : o.guard = none) (m k : Operand) (hop : o.op = Op.lookup t m k false) (ht : Tryz.prog.underlying t = some (.map K e)) {z : Value} (hz : (zeroValue e).run Tryz.prog w = .ok z w) (x : Value) {l : Lit}
    (hm : a.eval m = .map (some b)) (hx : a.eval k = x) (h : MapN K w b n F) (hl : keyOf Tryz.prog K x = some l) (hk : wpList Tryz.prog ops Q rest (a.put o.dst ((F x).getD z)) w) : wpList Tryz.prog ops Q (o :: rest) a w := by
  refine wpList_plain hg fun K' hK' => ?_
  obtain ⟨hrun, _⟩ := h.look hK ht hz hl
  unfold Oper.wp
  simp [execOp, hop, hm, hx, hrun, Result.andThen]
  exact hK' _ _ hk
theorem wpList_look_okv (hK : Keyed Tryz.prog K) {t e : TypeId} (hg : o.guard = none) (m k : Operand) (hop : o.op = Op.lookup t m k true) (ht : Tryz.prog.underlying t = some (.map K e)) {z : Value} (hz : (zeroValue e).run Tryz.prog w = .ok z w) (x : Value) {l : Lit}
    (hm : a.eval m = .map (some b)) (hx : a.eval k = x) (h : MapN K w b n F) (hl : keyOf Tryz.prog K x = some l) (hk : wpList Tryz.prog ops Q rest (a.put o.dst (.tuple #[(F x).getD z, .bool (F x).isSome])) w) : wpList Tryz.prog ops Q (o :: rest) a w := by
  refine wpList_plain hg fun K' hK' => ?_
  obtain ⟨_, hrun⟩ := h.look hK ht hz hl
  unfold Oper.wp
  simp [execOp, hop, hm, hx, hrun, Result.andThen]
  exact hK' _ _ hk
theorem wpList_upd_v (hK : Keyed Tryz.prog K) {t e : TypeId} (hg : o.guard = none) (m k u : Operand) (hop : o.op = Op.mapUpdate t m k u) (ht : Tryz.prog.underlying t = some (.map K e)) (x v : Value) {l : Lit}
    (hm : a.eval m = .map (some b)) (hx : a.eval k = x) (hv : a.eval u = v) (h : MapN K w b n F) (hn : n < maxLen) (hl : keyOf Tryz.prog K x = some l)
    (hk : ∀ w', MapN K w' b (n + 1) (updV F x v) → w.grownBy w' (some b) → wpList Tryz.prog ops Q rest (a.put o.dst undef) w') : wpList Tryz.prog ops Q (o :: rest) a w := by
  refine wpList_plain hg fun K' hK' => ?_
  obtain ⟨w', hrun, r1, r2⟩ := h.upd hK ht hn hl v
  unfold Oper.wp
  simp [execOp, hop, hm, hx, hv, hrun, Result.andThen]
  exact hK' _ _ (hk w' r1 r2)
end

theorem MapN.below {T : TypeId} {w w' : World} {b n : Nat} {F : Value → Option Value} (h : MapN T w b n F) (hb : Below w.heap.size w w') : MapN T w' b n F := h.kept (hb.block _ h.lt)
section
variable {K : TypeId} {w : World} {b n : Nat} {F : Value → Option Value} {ops : Array Oper} {rest : List Oper} {o : Oper} {a : Act} {Q : Exit → Act → World → Prop}
theorem wpList_look_none (hK : Maps.Keyed Tryz.prog K) {t e : TypeId} (hg : o.guard = none) (m k : Operand) (hop : o.op = Op.lookup t m k true) (ht : Tryz.prog.underlying t = some (.map K e)) {z : Value} (hz : (zeroValue e).run Tryz.prog w = .ok z w) (x : Value) {l : Lit}
    (hm : a.eval m = .map (some b)) (hx : a.eval k = x) (h : MapN K w b n F) (hl : keyOf Tryz.prog K x = some l) (hF : F x = none) (hk : wpList Tryz.prog ops Q rest (a.put o.dst (.tuple #[z, .bool false])) w) : wpList Tryz.prog ops Q (o :: rest) a w :=
  wpList_look_okv hK hg m k hop ht hz x hm hx h hl (by rw [hF]; exact hk)
theorem wpList_look_some (hK : Maps.Keyed Tryz.prog K) {t e : TypeId} (hg : o.guard = none) (m k : Operand) (hop : o.op = Op.lookup t m k true) (ht : Tryz.prog.underlying t = some (.map K e)) {z : Value} (hz : (zeroValue e).run Tryz.prog w = .ok z w) (x : Value) {l : Lit}
    (hm : a.eval m = .map (some b)) (hx : a.eval k = x) (h : MapN K w b n F) (hl : keyOf Tryz.prog K x = some l) {u : Value} (hF : F x = some u) (hk : wpList Tryz.prog ops Q rest (a.put o.dst (.tuple #[u, .bool true])) w) : wpList Tryz.prog ops Q (o :: rest) a w :=
  wpList_look_okv hK hg m k hop ht hz x hm hx h hl (by rw [hF]; exact hk)
end

/-! ### The key of a record -/
def whoV (m n : Int) : Value := .agg #[.int .i64 m, .int .i64 n]
theorem whoV_inj {m n m' n' : Int} (h : whoV m n = whoV m' n') : m = m' ∧ n = n' := by
  unfold whoV at h
  simpa using h
theorem laidOut : laidOutB Tryz.prog = true := by kernel_rfl
theorem who_row : (177 : TypeId) < Tryz.prog.types.size := of_decide_eq_true (by kernel_rfl)
theorem who_wide : (match Tryz.prog.underlying 177 with | some (.array _ _) | some (.struct _) => true | _ => false) = true := by kernel_rfl
set_option maxRecDepth 100000 in
theorem who_law : Maps.Keyed Tryz.prog 177 := Maps.Keyed.of_law (deep_law_laid laidOut (m := 2) (by omega) who_row (by kernel_rfl) who_wide)
theorem who_fields : (Tryz.prog.fieldsOf 177).toList.map (fun f => (f.name, f.type, f.offset)) = [("machine", 3, 0), ("seq", 3, 1)] := by kernel_rfl
theorem who_under : Tryz.prog.underlying 177 = some (.struct (Tryz.prog.fieldsOf 177)) := by kernel_rfl
set_option maxRecDepth 100000 in
theorem who_lits (d : Nat) {m n : Int} (hm : (Lit.int .i64 m).wf = true) (hn : (Lit.int .i64 n).wf = true) : Tryz.prog.keyLits (d + 2) 177 [.int .i64 m, .int .i64 n] = some [.int .i64 m, .int .i64 n] := by
  have hl : Tryz.prog.cellsOf 177 = 2 := by kernel_rfl
  have hci : Tryz.prog.cellsOf 3 = 1 := by kernel_rfl
  have hui : Tryz.prog.underlying 3 = some (.int .i64) := by kernel_rfl
  have hall : (Tryz.prog.fieldsOf 177).all (fun f => f.name != "_") = true := by kernel_rfl
  have hint : ∀ x : Int, (Lit.int .i64 x).wf = true → Tryz.prog.keyLits (d + 1) 3 [.int .i64 x] = some [.int .i64 x] := fun x hx => by
    simp [Program.keyLits, hui, hx]
  rw [show d + 2 = (d + 1) + 1 from rfl]
  unfold Program.keyLits
  simp only [who_under]
  rw [if_pos ⟨by rw [hl]; rfl, hall⟩]
  have hf := who_fields
  match h : (Tryz.prog.fieldsOf 177).toList with
  | [f0, f1] =>
    rw [h] at hf
    simp only [List.map_cons, List.map_nil, List.cons.injEq, Prod.mk.injEq, and_true] at hf
    obtain ⟨⟨n0, t0, o0⟩, n1, t1, o1⟩ := hf
    simp [t0, o0, t1, o1, hci, hint m hm, hint n hn]
  | [] => rw [h] at hf; simp at hf
  | [f0] => rw [h] at hf; simp at hf
  | f0 :: f1 :: f2 :: r => rw [h] at hf; simp at hf
set_option maxRecDepth 100000 in
theorem who_key {m n : Int} (hm : -1000000 ≤ m ∧ m ≤ 1000000) (hn : -1000000 ≤ n ∧ n ≤ 1000000) : ∃ l, keyOf Tryz.prog 177 (whoV m n) = some l := by
  have w1 : IntKind.i64.min = -9223372036854775808 := rfl
  have w2 : IntKind.i64.max = 9223372036854775807 := rfl
  have wf : ∀ x : Int, -1000000 ≤ x ∧ x ≤ 1000000 → (Lit.int .i64 x).wf = true := fun x hx => by
    show (decide (IntKind.i64.min ≤ x) && decide (x ≤ IntKind.i64.max)) = true
    rw [w1, w2, Bool.and_eq_true, decide_eq_true_eq, decide_eq_true_eq]
    omega
  have hk : Tryz.prog.keyType 177 = true := by kernel_rfl
  have hs : ∃ d, Tryz.prog.types.size + 1 = d + 2 := ⟨Tryz.prog.types.size - 1, by have h : 0 < Tryz.prog.types.size := Nat.lt_of_le_of_lt (Nat.zero_le _) who_row; omega⟩
  obtain ⟨d, hd⟩ := hs
  have hl : Tryz.prog.cellsOf 177 = 2 := by kernel_rfl
  have hf : (whoV m n).formed Tryz.prog 177 = true := by
    unfold whoV Value.formed
    simp only [who_under, hl]
    rfl
  refine ⟨.string (keyBytes [.int .i64 m, .int .i64 n]), ?_⟩
  unfold keyOf
  simp only [who_under, hk, hf, Bool.and_self, if_true, hd]
  show Option.map _ (Tryz.prog.keyLits (d + 2) 177 [.int .i64 m, .int .i64 n]) = _
  rw [who_lits d (wf m hm) (wf n hn)]
  rfl
theorem rec_zero (w : World) : (zeroValue 89).run Tryz.prog w = .ok (.agg #[.int .i64 0, .int .i64 0, .int .i64 0, .int .u8 0, .int .i64 0, .int .i64 0]) w := by kernel_rfl
end Go.Proofs.YtckgapeednokjaaGreat
