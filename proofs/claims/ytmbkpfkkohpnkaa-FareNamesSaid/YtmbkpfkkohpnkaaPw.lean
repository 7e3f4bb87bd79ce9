import Derived.Test.YtmbkpfkkohpnkaaKy
import Derived.Test.YtmbkpfkkohpnkaaCh
set_option linter.unusedVariables false
set_option linter.unusedSimpArgs false
namespace Go.Proofs.Ytmbkpfkkohpnkaa
open Go Go.Proofs Go.RowKit

/-- A bill in memory. -/
def BillAt (w : World) (v : Value) (q : Int × List Tk) : Prop := ∃ A k, v = .agg #[.slice A q.2.length k, .int .i64 q.1] ∧ w.ownsRow 0 89 5 (.slice A q.2.length k) q.2.length (q.2.flatMap tkC)
/-- The closure's variables, its map. -/
structure PaySt (W0 : World) (t : Tar) (a b c rv : Value) (l : List Rd) (Lb Cb Vb Pb C K : Nat) (w : World) (n : Nat) (F : Value → Option Value) : Prop where
  bel : Below W0.heap.size W0 w
  lb : w.heap[Lb]? = some (.cells #[rv] 37 (0, 0))
  cb : w.heap[Cb]? = some (.cells #[.pointer (some ⟨C, 0, none⟩)] 124 (0, 0))
  vb : w.heap[Vb]? = some (.cells #[.func (.func 71) #[.agg #[.int .i64 t.zones, a, b, c, .int .i64 t.window]] #[]] 121 (0, 0))
  pb : w.heap[Pb]? = some (.cells #[.func (.func 78) #[] #[.pointer (some ⟨Lb, 0, none⟩), .pointer (some ⟨Cb, 0, none⟩), .pointer (some ⟨Vb, 0, none⟩), .pointer (some ⟨Pb, 0, none⟩)]] 128 (0, 0))
  ch : w.heap[C]? = some (.cells #[.int .i64 t.zones, a, b, c, .int .i64 t.window, rv, .map (some K)] 127 (0, 0))
  known : MapN 130 w K n F
  cnt : n ≤ cntB F
  val : ∀ (m : List Bool) (v : Value), m.length = 12 → F (nowV m) = some v → BillAt w v (pay t l m)
  hK : W0.heap.size ≤ K
section
variable {W0 : World} {t : Tar} {a b c rv : Value} {l : List Rd} {Lb Cb Vb Pb C K : Nat} {w w' : World} {n : Nat} {F : Value → Option Value}
theorem own_keptT {v : Value} {n B : Nat} {xs : List Value} {base : Nat} (ho : w.ownsRow base 89 5 v n xs) (hg : w.grownBy w' (some B)) (hB : ∀ cur fr, w.heap[B]? ≠ some (.cells cur 89 fr)) : w'.ownsRow base 89 5 v n xs := by
  refine ho.kept hg ?_
  rcases ho.2 with ⟨h1, _⟩ | ⟨g, cap, cur, h1, _, h3, _⟩
  · left; rw [h1]; rfl
  · right
    rw [h1]
    intro e
    simp only [Value.ownBlock, Option.some.injEq] at e
    subst e
    exact hB _ _ h3
theorem BillAt.kept {v : Value} {q : Int × List Tk} {B : Nat} (h : BillAt w v q) (hg : w.grownBy w' (some B)) (hB : ∀ cur fr, w.heap[B]? ≠ some (.cells cur 89 fr)) : BillAt w' v q := by
  obtain ⟨A, k, rfl, ho⟩ := h
  exact ⟨A, k, rfl, own_keptT ho hg hB⟩
theorem BillAt.below {v : Value} {q : Int × List Tk} (h : BillAt w v q) (hb : Below w.heap.size w w') : BillAt w' v q := by
  obtain ⟨A, k, rfl, ho⟩ := h
  exact ⟨A, k, rfl, own_below ho hb⟩
theorem MapN.below {T : TypeId} {b n : Nat} (h : MapN T w b n F) (hb : Below w.heap.size w w') : MapN T w' b n F := h.kept (hb.block _ h.lt)
theorem PaySt.below (h : PaySt W0 t a b c rv l Lb Cb Vb Pb C K w n F) (hb : Below w.heap.size w w') : PaySt W0 t a b c rv l Lb Cb Vb Pb C K w' n F := by
  have k : ∀ {i : Nat} {o : Obj}, w.heap[i]? = some o → w'.heap[i]? = some o := fun hi => (hb.block _ (Array.getElem?_eq_some_iff.1 hi).1).trans hi
  exact ⟨h.bel.trans (hb.mono h.bel.size), k h.lb, k h.cb, k h.vb, k h.pb, k h.ch, h.known.below hb, h.cnt, fun m v hm hv => (h.val m v hm hv).below hb, h.hK⟩
/-- A store to a block of another type. -/
theorem PaySt.kept {B : Nat} {cur : Array Value} {T : TypeId} {fr : Nat × Nat} (h : PaySt W0 t a b c rv l Lb Cb Vb Pb C K w n F) (hg : w.grownBy w' (some B)) (hB : w.heap[B]? = some (.cells cur T fr))
    (hT : T ≠ 37 ∧ T ≠ 124 ∧ T ≠ 121 ∧ T ≠ 128 ∧ T ≠ 127 ∧ T ≠ 89) (h0 : W0.heap.size ≤ B) : PaySt W0 t a b c rv l Lb Cb Vb Pb C K w' n F := by
  have k : ∀ {i : Nat} {xs : Array Value} {U : TypeId}, w.heap[i]? = some (.cells xs U (0, 0)) → U ≠ T → w'.heap[i]? = some (.cells xs U (0, 0)) := fun {i xs U} hi hU => (hg.block _ (Array.getElem?_eq_some_iff.1 hi).1 (fun e => by
    injection e with e
    subst e
    rw [hi] at hB
    cases hB
    exact hU rfl)).trans hi
  have hK : K ≠ B := fun e => h.known.notCells hB e.symm
  exact ⟨h.bel.trans ⟨hg.os, hg.tape, hg.output, hg.size, fun i hi => hg.block i (by have := h.bel.size; omega) (fun e => by injection e; omega)⟩, k h.lb hT.1.symm, k h.cb hT.2.1.symm, k h.vb hT.2.2.1.symm, k h.pb hT.2.2.2.1.symm, k h.ch hT.2.2.2.2.1.symm,
    h.known.kept (hg.block _ h.known.lt (fun e => hK (by injection e))), h.cnt, fun m v hm hv => (h.val m v hm hv).kept hg (fun cu fr' e => by rw [hB] at e; cases e; exact hT.2.2.2.2.2 rfl), h.hK⟩
/-- The map takes one more bill. -/
theorem PaySt.upd {m : List Bool} {v : Value} (h : PaySt W0 t a b c rv l Lb Cb Vb Pb C K w n F) (hg : w.grownBy w' (some K)) (hm : MapN 130 w' K (n + 1) (updV F (nowV m) v)) (hl : m.length = 12) (h0 : F (nowV m) = none) (hv : BillAt w v (pay t l m)) :
    PaySt W0 t a b c rv l Lb Cb Vb Pb C K w' (n + 1) (updV F (nowV m) v) := by
  have nc : ∀ cur U fr, w.heap[K]? ≠ some (.cells cur U fr) := fun cur U fr e => h.known.notCells e rfl
  have k : ∀ {i : Nat} {xs : Array Value} {U : TypeId}, w.heap[i]? = some (.cells xs U (0, 0)) → w'.heap[i]? = some (.cells xs U (0, 0)) := fun {i xs U} hi => (hg.block _ (Array.getElem?_eq_some_iff.1 hi).1 (fun e => by
    injection e with e
    subst e
    exact nc _ _ _ hi)).trans hi
  refine ⟨h.bel.trans ⟨hg.os, hg.tape, hg.output, hg.size, fun i hi => hg.block i (by have := h.bel.size; omega) (fun e => by have := h.hK; injection e; omega)⟩, k h.lb, k h.cb, k h.vb, k h.pb, k h.ch, hm, Nat.le_trans (Nat.succ_le_succ h.cnt) (cntB_upd hl h0 v), fun x u hx hu => ?_, h.hK⟩
  by_cases e : nowV x = nowV m
  · have e2 := nowV_inj e
    subst e2
    rw [updV_same] at hu
    cases hu
    exact hv.kept hg (fun _ _ => nc _ _ _)
  · rw [updV_other e] at hu
    exact (h.val x u hx hu).kept hg (fun _ _ => nc _ _ _)
end
/-- What the closure hands back. -/
def GivesPay (W0 : World) (t : Tar) (a b c rv : Value) (l : List Rd) (Lb Cb Vb Pb C K : Nat) (now : List Bool) (w : World) (F : Value → Option Value) (e : Ending) (w' : World) : Prop :=
  ∃ v n' F', e = .returned v ∧ BillAt w' v (pay t l now) ∧ PaySt W0 t a b c rv l Lb Cb Vb Pb C K w' n' F' ∧ w.grownBy w' (some K) ∧ ∀ m : List Bool, m.length = 12 → F (nowV m) = none → F' (nowV m) ≠ none → openN l m ≤ openN l now
theorem foldP_snoc (t : Tar) (f : Tk → Int × List Tk) (x : Tk) : ∀ (o : List Tk) (b : Int × List Tk), foldP t f (o ++ [x]) b = better t x (f x) (foldP t f o b)
  | [], b => rfl
  | y :: o, b => by simp only [List.cons_append, foldP, foldP_snoc t f x o]
theorem nextC_len (t : Tar) (l : List Rd) (x : Tk) (now : List Bool) : (nextC t l x now).length = 12 := by simp [nextC]
theorem grownK {w w' : World} {K : Nat} (h : Below w.heap.size w w') : w.grownBy w' (some K) := ⟨h.os, h.tape, h.output, h.size, fun i hi _ => h.block i hi⟩
/-- A bill is stored in the result's box. -/
theorem bill_set {W : World} {R : Nat} {u v s p : Value} (h : W.heap[R]? = some (.cells #[u, v] 99 (0, 0))) :
    ((W.setCell ⟨R, 0, none⟩ s).setCell ⟨R, 1, none⟩ p).cell? ⟨R, 0, none⟩ = some s ∧ ((W.setCell ⟨R, 0, none⟩ s).setCell ⟨R, 1, none⟩ p).cell? ⟨R, 1, none⟩ = some p ∧ ((W.setCell ⟨R, 0, none⟩ s).setCell ⟨R, 1, none⟩ p).heap[R]? = some (.cells #[s, p] 99 (0, 0)) ∧ W.grownBy ((W.setCell ⟨R, 0, none⟩ s).setCell ⟨R, 1, none⟩ p) (some R) := by
  have h2 := blk_set (o := 1) (blk_set (o := 0) h s) p
  exact ⟨by rw [box_cells h2]; rfl, by rw [box_cells h2]; rfl, h2, grown_set (grown_set (World.grownBy.refl W _) _ _) _ _⟩
theorem bill_zero (w : World) : (zeroValue 99).run Try.prog w = .ok (.agg #[.slice none 0 0, .int .i64 0]) w := by kernel_rfl
theorem grown_transK {A B D : World} {K : Option Nat} (h : A.grownBy B K) (k : B.grownBy D K) : A.grownBy D K :=
  ⟨k.os.trans h.os, k.tape.trans h.tape, k.output.trans h.output, Nat.le_trans h.size k.size, fun i hi hn => (k.block i (Nat.lt_of_lt_of_le hi h.size) hn).trans (h.block i hi hn)⟩
/-- A store to new memory. -/
theorem grown_newK {A B D : World} {K : Option Nat} {R : Nat} (h : A.grownBy B K) (hR : A.heap.size ≤ R) (k : B.grownBy D (some R)) : A.grownBy D K :=
  ⟨k.os.trans h.os, k.tape.trans h.tape, k.output.trans h.output, Nat.le_trans h.size k.size, fun i hi hn => (k.block i (Nat.lt_of_lt_of_le hi h.size) (fun e => by injection e; omega)).trans (h.block i hi hn)⟩
theorem then_name {K : Act → World → Prop} {Q : Exit → Act → World → Prop} {a : Act} {w : World} (G : World → Prop) (h : G w) (hk : ∀ W, G W → Exit.then K Q .normal a W) : Exit.then K Q .normal a w := hk w h
end Go.Proofs.Ytmbkpfkkohpnkaa
