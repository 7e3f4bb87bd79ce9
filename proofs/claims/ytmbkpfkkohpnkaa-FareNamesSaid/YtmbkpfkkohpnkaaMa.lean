import Derived.Maps.OwnSet
import Derived.Maps.Ext
import Derived.Test.YtmbkpfkkohpnkaaWo
set_option linter.unusedVariables false
set_option linter.unusedSimpArgs false
namespace Go.Proofs.Ytmbkpfkkohpnkaa
open Go Go.Proofs Go.RowKit
open Go.ChangeMaps Go.MapKept
open Go.Maps (Keyed has)

/-! ### A map as a partial function -/
def heldE : Value → Option (DataW Value × List MemPlace) := fun v => some (.held v, [])
open Classical in
noncomputable def updV (F : Value → Option Value) (x v : Value) : Value → Option Value := fun y => if y = x then some v else F y
theorem updV_same (F : Value → Option Value) (x v : Value) : updV F x v x = some v := if_pos rfl
theorem updV_other {F : Value → Option Value} {x y v : Value} (h : y ≠ x) : updV F x v y = F y := if_neg h
/-- Block b is a map of at most n entries that holds just F. -/
def MapN (K : TypeId) (w : World) (b n : Nat) (F : Value → Option Value) : Prop :=
  ∃ D, w.ownsMap Try.prog K heldE b n D ∧ ∀ v l, keyOf Try.prog K v = some l → has D l = (F v).isSome ∧ ∀ z, D.atKey l (.held z) = .held ((F v).getD z)
section
variable {K : TypeId} {w w' : World} {b n : Nat} {F : Value → Option Value}
theorem mapN_made (K : TypeId) (w : World) : MapN K (w.alloc (.map #[] 0)) w.heap.size 0 fun _ => none :=
  ⟨.map [], World.ownsMap_made _ _ _ _, fun v l _ => ⟨rfl, fun z => rfl⟩⟩
theorem MapN.lt (h : MapN K w b n F) : b < w.heap.size := by
  obtain ⟨D, h, _⟩ := h
  exact h.lt
theorem MapN.mono (h : MapN K w b n F) {m : Nat} (hm : n ≤ m) : MapN K w b m F := by
  obtain ⟨D, h, h2⟩ := h
  exact ⟨D, h.mono hm, h2⟩
theorem MapN.kept (h : MapN K w b n F) (e : w'.heap[b]? = w.heap[b]?) : MapN K w' b n F := by
  obtain ⟨D, ⟨es, clock, hb, r⟩, h2⟩ := h
  exact ⟨D, ⟨es, clock, e.trans hb, r⟩, h2⟩
theorem MapN.notCells (h : MapN K w b n F) {c : Nat} {xs : Array Value} {t : TypeId} {fr : Nat × Nat} (hc : w.heap[c]? = some (.cells xs t fr)) : c ≠ b := by
  rintro rfl
  obtain ⟨D, ⟨es, clock, hb, r⟩, h2⟩ := h
  rw [hc] at hb
  cases hb
theorem MapN.look (hK : Keyed Try.prog K) (h : MapN K w b n F) {t e : TypeId} {z : Value} (ht : Try.prog.underlying t = some (.map K e)) (hz : (zeroValue e).run Try.prog w = .ok z w) {x : Value} {l : Lit} (hx : keyOf Try.prog K x = some l) :
    (Instr.lookup t (.map (some b)) x false).run Try.prog w = .ok ((F x).getD z) w ∧ (Instr.lookup t (.map (some b)) x true).run Try.prog w = .ok (.tuple #[(F x).getD z, .bool (F x).isSome]) w := by
  obtain ⟨D, h1, h3⟩ := h
  obtain ⟨k1, k2⟩ := h3 x l hx
  obtain ⟨v, ps, r1, r2⟩ := h1.lookup hK ht hz (zd := .held z) (zp := []) rfl hx
  obtain ⟨v', ps', r3, r4⟩ := h1.look_ok hK ht hz (zd := .held z) (zp := []) rfl hx
  rw [k2 z] at r2 r4
  rw [k1] at r3
  unfold heldE at r2 r4
  cases r2
  cases r4
  exact ⟨r1, r3⟩
theorem MapN.upd (hK : Keyed Try.prog K) (h : MapN K w b n F) {t e : TypeId} (ht : Try.prog.underlying t = some (.map K e)) (hn : n < maxLen) {x : Value} {l : Lit} (hx : keyOf Try.prog K x = some l) (v : Value) :
    ∃ w', (Instr.mapUpdate t (.map (some b)) x v).run Try.prog w = .ok () w' ∧ MapN K w' b (n + 1) (updV F x v) ∧ w.grownBy w' (some b) := by
  obtain ⟨D, h1, h3⟩ := h
  obtain ⟨w', r1, r2, r3⟩ := h1.update hK ht hn hx (d := .held v) (ps := []) (val := v) rfl
  refine ⟨w', r1, ⟨_, r2, fun y m hy => ?_⟩, r3⟩
  by_cases e : y = x
  · subst e
    rw [hx] at hy
    cases hy
    rw [updV_same]
    exact ⟨Maps.has_put_same h1.isMap (hK.key hx) _, fun z => Maps.atKey_put_same h1.isMap (hK.key hx) _ _⟩
  · rw [updV_other e]
    have hne : m ≠ l := fun h => e (hK.inj hy (h ▸ hx))
    rw [Maps.has_put_other hne]
    obtain ⟨k1, k2⟩ := h3 y m hy
    exact ⟨k1, fun z => (Maps.atKey_put_other hne _ _).trans (k2 z)⟩
end
section
variable {K : TypeId} {w : World} {b n : Nat} {F : Value → Option Value} {ops : Array Oper} {rest : List Oper} {o : Oper} {a : Act} {Q : Exit → Act → World → Prop}
theorem wpList_look_v (hK : Keyed Try.prog K) {t e : TypeId} (hg : o.guard = none) (m k : Operand) (hop : o.op = Op.lookup t m k false) (ht : Try.prog.underlying t = some (.map K e)) {z : Value} (hz : (zeroValue e).run Try.prog w = .ok z w) (x : Value) {l : Lit}
    (hm : a.eval m = .map (some b)) (hx : a.eval k = x) (h : MapN K w b n F) (hl : keyOf Try.prog K x = some l) (hk : wpList Try.prog ops Q rest (a.put o.dst ((F x).getD z)) w) : wpList Try.prog ops Q (o :: rest) a w := by
  refine wpList_plain hg fun K' hK' => ?_
  obtain ⟨hrun, _⟩ := h.look hK ht hz hl
  unfold Oper.wp
  simp [execOp, hop, hm, hx, hrun, Result.andThen]
  exact hK' _ _ hk
theorem wpList_look_okv (hK : Keyed Try.prog K) {t e : TypeId} (hg : o.guard = none) (m k : Operand) (hop : o.op = Op.lookup t m k true) (ht : Try.prog.underlying t = some (.map K e)) {z : Value} (hz : (zeroValue e).run Try.prog w = .ok z w) (x : Value) {l : Lit}
    (hm : a.eval m = .map (some b)) (hx : a.eval k = x) (h : MapN K w b n F) (hl : keyOf Try.prog K x = some l) (hk : wpList Try.prog ops Q rest (a.put o.dst (.tuple #[(F x).getD z, .bool (F x).isSome])) w) : wpList Try.prog ops Q (o :: rest) a w := by
  refine wpList_plain hg fun K' hK' => ?_
  obtain ⟨_, hrun⟩ := h.look hK ht hz hl
  unfold Oper.wp
  simp [execOp, hop, hm, hx, hrun, Result.andThen]
  exact hK' _ _ hk
theorem wpList_upd_v (hK : Keyed Try.prog K) {t e : TypeId} (hg : o.guard = none) (m k u : Operand) (hop : o.op = Op.mapUpdate t m k u) (ht : Try.prog.underlying t = some (.map K e)) (x v : Value) {l : Lit}
    (hm : a.eval m = .map (some b)) (hx : a.eval k = x) (hv : a.eval u = v) (h : MapN K w b n F) (hn : n < maxLen) (hl : keyOf Try.prog K x = some l)
    (hk : ∀ w', MapN K w' b (n + 1) (updV F x v) → w.grownBy w' (some b) → wpList Try.prog ops Q rest (a.put o.dst undef) w') : wpList Try.prog ops Q (o :: rest) a w := by
  refine wpList_plain hg fun K' hK' => ?_
  obtain ⟨w', hrun, r1, r2⟩ := h.upd hK ht hn hl v
  unfold Oper.wp
  simp [execOp, hop, hm, hx, hv, hrun, Result.andThen]
  exact hK' _ _ (hk w' r1 r2)
end
end Go.Proofs.Ytmbkpfkkohpnkaa
