import Derived.WalkKit
import Derived.Below
import Derived.Lib.Hide
import Derived.Laws.OwnMore
import Derived.Deep.AppendLies
import Derived.Deep.Draws
import Derived.BigQuiet
import Derived.Deep.QuietTactic
import Derived.KernelRfl
set_option linter.unusedVariables false
set_option linter.unusedSimpArgs false
namespace Go.Proofs.Ytobeffjdfhkjeaa
open Go.RowKit

/-- A slice of numbers of kind K that reads as l. -/
def NumsAt (K : IntKind) (w : World) (v : Value) (l : List Int) : Prop :=
  ∃ A c, v = .slice A l.length c ∧ l.length ≤ c ∧ c ≤ maxLen ∧
    (0 < l.length → ∃ b o, A = some ⟨b, o, none⟩ ∧ ∀ k, k < l.length → w.cell? ⟨b, o + k, none⟩ = some (.int K (l[k]?.getD 0)))

/-- A slice of slices of ints. -/
def RowsAt (w : World) (v : Value) (ll : List (List Int)) : Prop :=
  ∃ A c, v = .slice A ll.length c ∧ ll.length ≤ c ∧ c ≤ maxLen ∧
    (0 < ll.length → ∃ b o, A = some ⟨b, o, none⟩ ∧ ∀ k, k < ll.length → ∃ u, w.cell? ⟨b, o + k, none⟩ = some u ∧ NumsAt .i64 w u (ll[k]?.getD []))

structure Strat where
  coins : Int
  lo : Int
  hi : Int
  seen : List Int

def Strat.none : Strat := ⟨0, 0, 0, []⟩

/-- A slice of strata: four cells each. -/
def StrataAt (w : World) (v : Value) (ss : List Strat) : Prop :=
  ∃ A c, v = .slice A ss.length c ∧ ss.length ≤ c ∧ c ≤ maxLen ∧
    (0 < ss.length → ∃ b o, A = some ⟨b, o, none⟩ ∧ ∀ k s, ss[k]? = some s → ∃ u, NumsAt .i64 w u s.seen ∧
      w.cell? ⟨b, o + k * 4, none⟩ = some (.int .i64 s.coins) ∧ w.cell? ⟨b, o + k * 4 + 1, none⟩ = some (.int .i64 s.lo) ∧
      w.cell? ⟨b, o + k * 4 + 2, none⟩ = some (.int .i64 s.hi) ∧ w.cell? ⟨b, o + k * 4 + 3, none⟩ = some u)

section
variable {w w' : World} {v : Value}
theorem cell_below (hb : Below w.heap.size w w') {p : Addr} {x : Value} (h : w.cell? p = some x) : w'.cell? p = some x :=
  (hb.cell (World.block_lt_of_cell? w p h)).trans h

theorem NumsAt.below {K : IntKind} {l : List Int} (h : NumsAt K w v l) (hb : Below w.heap.size w w') : NumsAt K w' v l := by
  obtain ⟨A, c, rfl, h1, h2, h3⟩ := h
  refine ⟨A, c, rfl, h1, h2, fun hp => ?_⟩
  obtain ⟨b, o, e, hc⟩ := h3 hp
  exact ⟨b, o, e, fun k hk => cell_below hb (hc k hk)⟩

theorem RowsAt.below {ll : List (List Int)} (h : RowsAt w v ll) (hb : Below w.heap.size w w') : RowsAt w' v ll := by
  obtain ⟨A, c, rfl, h1, h2, h3⟩ := h
  refine ⟨A, c, rfl, h1, h2, fun hp => ?_⟩
  obtain ⟨b, o, e, hc⟩ := h3 hp
  refine ⟨b, o, e, fun k hk => ?_⟩
  obtain ⟨u, hu, hn⟩ := hc k hk
  exact ⟨u, cell_below hb hu, hn.below hb⟩

theorem StrataAt.below {ss : List Strat} (h : StrataAt w v ss) (hb : Below w.heap.size w w') : StrataAt w' v ss := by
  obtain ⟨A, c, rfl, h1, h2, h3⟩ := h
  refine ⟨A, c, rfl, h1, h2, fun hp => ?_⟩
  obtain ⟨b, o, e, hc⟩ := h3 hp
  refine ⟨b, o, e, fun k s hs => ?_⟩
  obtain ⟨u, hn, c0, c1, c2, c3⟩ := hc k s hs
  exact ⟨u, hn.below hb, cell_below hb c0, cell_below hb c1, cell_below hb c2, cell_below hb c3⟩
end

/-- The call hands back v and has changed nothing that was there. -/
def Gives (w : World) (v : Value) (e : Ending) (w' : World) : Prop := e = .returned v ∧ Below w.heap.size w w'

/-- The call hands back v and leaves the world alone. -/
def Same (w : World) (v : Value) (e : Ending) (w' : World) : Prop := e = .returned v ∧ w = w'
theorem Same.gives {P : Program} {f : FuncId} {args : Array Value} {w : World} {v : Value} (h : Calls P f args w (Same w v)) : Calls P f args w (Gives w v) :=
  h.mono fun _ _ ⟨he, hw⟩ => ⟨he, hw ▸ Below.refl _ _⟩
theorem Same.to {P : Program} {f : FuncId} {args : Array Value} {w W : World} {a b : Bool} (e : a = b) (h : Calls P f args w (Same W (.bool a))) : Calls P f args w (Same W (.bool b)) := by
  rw [← e]; exact h
theorem same_int {w : World} {K : IntKind} {a b : Int} (h : a = b) : Same w (.int K b) (.returned (.int K a)) w := ⟨by rw [h], rfl⟩
theorem gives_bool {w w' : World} {a b : Bool} (h : a = b) (hb : Below w.heap.size w w') : Gives w (.bool b) (.returned (.bool a)) w' := ⟨by rw [h], hb⟩
theorem gives_int {w w' : World} {K : IntKind} {a b : Int} (h : a = b) (hb : Below w.heap.size w w') : Gives w (.int K b) (.returned (.int K a)) w' := ⟨by rw [h], hb⟩

def inB (n lo hi : Int) : Bool := decide (lo ≤ n ∧ n ≤ hi)

def thinB (ss : List Strat) : Bool := decide (ss.length ≤ 12) && ss.all fun s => decide (s.seen.length ≤ 9)

theorem all_of {α : Type} {l : List α} {p : α → Bool} (h : ∀ (j : Nat) (s : α), j < l.length → l[j]? = some s → p s = true) : l.all p = true := by
  rw [List.all_eq_true]
  intro x hx
  obtain ⟨j, hj, rfl⟩ := List.getElem_of_mem hx
  exact h j _ hj (List.getElem?_eq_getElem hj)

theorem not_all_of {α : Type} {l : List α} {p : α → Bool} {j : Nat} {s : α} (h : l[j]? = some s) (hs : p s = false) : l.all p = false := by
  rw [List.all_eq_false]
  exact ⟨s, List.mem_of_getElem? h, by simp [hs]⟩

theorem thin_yes {ss : List Strat} (h1 : ss.length ≤ 12) (h : ∀ (j : Nat) (s : Strat), j < ss.length → ss[j]? = some s → s.seen.length ≤ 9) : thinB ss = true := by
  unfold thinB
  rw [all_of fun j s hj hs => by simpa using h j s hj hs]
  simpa using h1
theorem thin_no {ss : List Strat} (h : 12 < ss.length) : thinB ss = false := by
  unfold thinB
  simp; omega
theorem thin_no' {ss : List Strat} {j : Nat} {s : Strat} (h : ss[j]? = some s) (hs : 9 < s.seen.length) : thinB ss = false := by
  unfold thinB
  rw [not_all_of h (by simpa using hs)]
  simp

/-- A world that has come out of w by new blocks alone. -/
def Later (w : World) : Type := { x : World // Below w.heap.size w x }

instance later_nonempty (w : World) : Nonempty (Later w) := ⟨⟨w, Below.refl _ _⟩⟩

theorem wp_region_later {P : Program} {id : Nat} {Q : Exit → Act → World → Prop} {a : Act} {w : World} {l : List Oper} (hm : P.follows .mixedOrders = true) (hB : Region.lexB .any l.toArray = true)
    (h : wpQuiet P l.toArray (fun w' => ∃ x : Later w, w' = x.val) (fun a' => ∀ w', (∃ x : Later w, w' = x.val) → Q .normal a' w') l a) : (Code.region id l.toArray true).wp P Q a w :=
  wp_region_quiet (C := fun w' => ∃ x : Later w, w' = x.val) hm hB ⟨⟨w.drew, (Below.refl _ _).drew⟩, rfl⟩ (by simpa using h)

theorem Later.call {P : Program} {f : FuncId} {args : Array Value} {w : World} {x : Later w} {v : Value} (h : Calls P f args x.val (Gives x.val v)) :
    Calls P f args x.val fun e w'' => e = .returned v ∧ ∃ y : Later w, w'' = y.val :=
  h.mono fun _ w'' ⟨he, hb⟩ => ⟨he, ⟨w'', x.property.trans (hb.mono x.property.size)⟩, rfl⟩

theorem Later.cell {w : World} {p : Addr} {u : Value} (h : w.cell? p = some u) (x : Later w) : x.val.cell? p = some u := cell_below x.property h

/-- A call of a function value. -/
def CallsVal (P : Program) (f : Value) (args : Array Value) (w : World) (R : Ending → World → Prop) : Prop :=
  ∃ g as, (do let d ← Deferred.ofValue f args; invoke d.target d.args).run P w = .ok (.enter g as) w ∧ Calls P g as w R

theorem wpList_callv {P : Program} {w : World} {ops : Array Oper} {rest : List Oper} {o : Oper} {a : Act} {Q : Exit → Act → World → Prop} (x : Operand) (args : List Operand) (tys : Array TypeId) (hg : o.guard = none)
    (ho : o.op = .call { callee := .value x, args := args.toArray, argTypes := tys }) (f : Value) (hf : a.eval x = f) (as : List Value) (has : args.map a.eval = as) (v : Value)
    (hcall : CallsVal P f as.toArray w (Gives w v)) (hK : ∀ w', Below w.heap.size w w' → wpList P ops Q rest (a.put o.dst v) w') : wpList P ops Q (o :: rest) a w := by
  refine wpList_plain hg fun K hK' => ?_
  obtain ⟨g, as', hrun, hc⟩ := hcall
  unfold Oper.wp execOp
  simp only [ho, resolve, hf, List.map_toArray, has]
  simp only [Sem.run_bind] at hrun ⊢
  rw [hrun]
  simp only [Oper.upon_enter]
  refine hc.mono ?_
  rintro e w' ⟨rfl, hb⟩
  exact hK' _ _ (hK w' hb)

def ixOf {α : Type} (p : α → Bool) (l : List α) : Int := match l.findIdx? p with
  | some k => k
  | none => -1

theorem ixOf_hit {α : Type} {p : α → Bool} {l : List α} {k : Nat} {x : α} (hall : ∀ (j : Nat) (x : α), j < k → l[j]? = some x → p x = false) (hx : l[k]? = some x) (hp : p x = true) : ixOf p l = k := by
  unfold ixOf
  obtain ⟨hk, rfl⟩ := List.getElem?_eq_some_iff.1 hx
  have : l.findIdx? p = some k := by
    rw [List.findIdx?_eq_some_iff_getElem]
    exact ⟨hk, hp, fun j hj => by simp [hall j l[j] hj (List.getElem?_eq_getElem (by omega))]⟩
  rw [this]

theorem ixOf_none {α : Type} {p : α → Bool} {l : List α} (hall : ∀ (j : Nat) (x : α), j < l.length → l[j]? = some x → p x = false) : ixOf p l = -1 := by
  unfold ixOf
  have : l.findIdx? p = none := by
    rw [List.findIdx?_eq_none_iff]
    intro x hx
    obtain ⟨j, hj, rfl⟩ := List.getElem_of_mem hx
    exact hall j _ hj (List.getElem?_eq_getElem hj)
  rw [this]

theorem ixOf_any {α : Type} (p : α → Bool) (l : List α) : decide (0 ≤ ixOf p l) = l.any p := by
  unfold ixOf
  cases h : l.findIdx? p with
  | none =>
    rw [List.findIdx?_eq_none_iff] at h
    have e : l.any p = false := by
      rw [List.any_eq_false]
      intro x hx
      simp [h x hx]
    rw [e]
    rfl
  | some k =>
    obtain ⟨hk, hp, _⟩ := List.findIdx?_eq_some_iff_getElem.1 h
    rw [List.any_eq_true.2 ⟨l[k], List.getElem_mem hk, hp⟩]
    simp

theorem any_not {α : Type} (p : α → Bool) (l : List α) : (!(l.any fun x => !p x)) = l.all p := by
  induction l with
  | nil => rfl
  | cons a l ih => simp [List.any_cons, List.all_cons, ← ih]

theorem wp_name {P : Program} {c : Code} {Q : Exit → Act → World → Prop} {a : Act} {w : World} (F : World → Prop) (h : F w) (hk : ∀ W, F W → c.wp P Q a W) : c.wp P Q a w := hk w h

def sumL : List Int → Int
  | [] => 0
  | a :: l => a + sumL l

theorem sumL_append (a b : List Int) : sumL (a ++ b) = sumL a + sumL b := by
  induction a with
  | nil => simp [sumL]
  | cons x a ih => simp [sumL, ih]; omega

theorem sumL_take {l : List Int} {k : Nat} {x : Int} (h : l[k]? = some x) : sumL (l.take (k + 1)) = sumL (l.take k) + x := by
  obtain ⟨hk, rfl⟩ := List.getElem?_eq_some_iff.1 h
  rw [List.take_succ_eq_append_getElem hk, sumL_append]
  simp [sumL]

/-- All partial sums are far from the ends of int. -/
def SumOk (l : List Int) : Prop := ∀ k, k ≤ l.length → -4611686018427387904 ≤ sumL (l.take k) ∧ sumL (l.take k) ≤ 4611686018427387904

theorem sumL_bound {l : List Int} {M : Int} (hM : 0 ≤ M) (h : ∀ x ∈ l, 0 ≤ x ∧ x ≤ M) : 0 ≤ sumL l ∧ sumL l ≤ l.length * M := by
  induction l with
  | nil => simp [sumL]
  | cons a l ih =>
    have h1 := h a (by simp)
    have h2 := ih fun x hx => h x (by simp [hx])
    simp only [sumL, List.length_cons, Int.natCast_add, Int.add_mul]
    omega

theorem sumOk_of {l : List Int} (hn : l.length ≤ 1000) (h : ∀ x ∈ l, 0 ≤ x ∧ x ≤ 100000000000) : SumOk l := by
  intro k hk
  have h1 := sumL_bound (l := l.take k) (M := 100000000000) (by omega) fun x hx => h x (List.mem_of_mem_take hx)
  have h2 : (l.take k).length ≤ 1000 := by simp; omega
  omega

def stratB (n : Int) (s : Strat) : Bool :=
  inB s.coins 0 10000000 && (inB s.lo 0 400 && (inB s.hi 0 400 && (decide (s.lo ≤ s.hi) && (decide ((s.seen.length : Int) = n) && ((s.seen.all fun x => inB x 0 400) && decide (sumL s.seen ≤ s.lo))))))

def faultI (n : Int) (ss : List Strat) : Int := if 8 < ss.length then 3 else if inB n 1 5 && ss.all (stratB n) then 0 else 1

/-- A contract's Bool, known. -/
theorem Gives.to {P : Program} {f : FuncId} {args : Array Value} {w W : World} {a b : Bool} (e : a = b) (h : Calls P f args w (Gives W (.bool a))) : Calls P f args w (Gives W (.bool b)) := by
  rw [← e]; exact h
end Go.Proofs.Ytobeffjdfhkjeaa
