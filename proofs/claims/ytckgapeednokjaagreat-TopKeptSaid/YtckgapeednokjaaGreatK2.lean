import Derived.Test.YtckgapeednokjaaGreatProg
import Derived.WalkKit
import Derived.Below
import Derived.Lib.Hide
import Derived.Laws.OwnMore
import Derived.Deep.AppendLies
import Derived.Deep.Draws
import Derived.BigQuiet
import Derived.Deep.QuietTactic
import Derived.KernelRfl
import Derived.WalkSpells
import Derived.WalkLawsBesides
import Derived.Outline
import Derived.Maps.AppendAt
import Derived.OwnWalk
import Derived.Deep.RegionHeld3
import Derived.StillTail
import Derived.Test.YtckgapeednokjaaGreatK1
import Derived.Laws.EntriesVeiled
set_option linter.unusedVariables false
set_option linter.unusedSimpArgs false
namespace Go.Proofs.YtckgapeednokjaaGreat
open Go.RowKit

/-- A slice of numbers of kind K that reads as l. -/
def NumsAt (K : IntKind) (w : World) (v : Value) (l : List Int) : Prop :=
  ∃ A c, v = .slice A l.length c ∧ l.length ≤ c ∧ c ≤ maxLen ∧
    (0 < l.length → ∃ b o, A = some ⟨b, o, none⟩ ∧ ∀ k, k < l.length → w.cell? ⟨b, o + k, none⟩ = some (.int K (l[k]?.getD 0)))

/-- A slice of slices of ints. -/
def RowsAt (w : World) (v : Value) (ll : List (List Int)) : Prop :=
  ∃ A c, v = .slice A ll.length c ∧ ll.length ≤ c ∧ c ≤ maxLen ∧
    (0 < ll.length → ∃ b o, A = some ⟨b, o, none⟩ ∧ ∀ k, k < ll.length → ∃ u, w.cell? ⟨b, o + k, none⟩ = some u ∧ NumsAt .i64 w u (ll[k]?.getD []))

section
variable {w w' : World} {v : Value}
theorem cell_below (hb : Below w.heap.size w w') {p : Addr} {x : Value} (h : w.cell? p = some x) : w'.cell? p = some x :=
  (hb.cell (World.block_lt_of_cell? w p h)).trans h

theorem NumsAt.below {K : IntKind} {l : List Int} (h : NumsAt K w v l) (hb : Below w.heap.size w w') : NumsAt K w' v l := by
  obtain ⟨A, c, rfl, h1, h2, h3⟩ := h
  refine ⟨A, c, rfl, h1, h2, fun hp => ?_⟩
  obtain ⟨b, o, e, hc⟩ := h3 hp
  exact ⟨b, o, e, fun k hk => cell_below hb (hc k hk)⟩

theorem RowsAt.below {ll : List (List Int)} (h : RowsAt w v ll) (hb : Below w.heap.size w w') : RowsAt w' v ll := by
  obtain ⟨A, c, rfl, h1, h2, h3⟩ := h
  refine ⟨A, c, rfl, h1, h2, fun hp => ?_⟩
  obtain ⟨b, o, e, hc⟩ := h3 hp
  refine ⟨b, o, e, fun k hk => ?_⟩
  obtain ⟨u, hu, hn⟩ := hc k hk
  exact ⟨u, cell_below hb hu, hn.below hb⟩

end

/-- The call hands back v and has changed nothing that was there. -/
def Gives (w : World) (v : Value) (e : Ending) (w' : World) : Prop := e = .returned v ∧ Below w.heap.size w w'

/-- The call hands back v and leaves the world alone. -/
def Same (w : World) (v : Value) (e : Ending) (w' : World) : Prop := e = .returned v ∧ w = w'
theorem Same.gives {P : Program} {f : FuncId} {args : Array Value} {w : World} {v : Value} (h : Calls P f args w (Same w v)) : Calls P f args w (Gives w v) :=
  h.mono fun _ _ ⟨he, hw⟩ => ⟨he, hw ▸ Below.refl _ _⟩
theorem Same.to {P : Program} {f : FuncId} {args : Array Value} {w W : World} {a b : Bool} (e : a = b) (h : Calls P f args w (Same W (.bool a))) : Calls P f args w (Same W (.bool b)) := by
  rw [← e]; exact h
theorem same_int {w : World} {K : IntKind} {a b : Int} (h : a = b) : Same w (.int K b) (.returned (.int K a)) w := ⟨by rw [h], rfl⟩
theorem gives_bool {w w' : World} {a b : Bool} (h : a = b) (hb : Below w.heap.size w w') : Gives w (.bool b) (.returned (.bool a)) w' := ⟨by rw [h], hb⟩
theorem gives_int {w w' : World} {K : IntKind} {a b : Int} (h : a = b) (hb : Below w.heap.size w w') : Gives w (.int K b) (.returned (.int K a)) w' := ⟨by rw [h], hb⟩

def inB (n lo hi : Int) : Bool := decide (lo ≤ n ∧ n ≤ hi)

theorem all_of {α : Type} {l : List α} {p : α → Bool} (h : ∀ (j : Nat) (s : α), j < l.length → l[j]? = some s → p s = true) : l.all p = true := by
  rw [List.all_eq_true]
  intro x hx
  obtain ⟨j, hj, rfl⟩ := List.getElem_of_mem hx
  exact h j _ hj (List.getElem?_eq_getElem hj)

theorem not_all_of {α : Type} {l : List α} {p : α → Bool} {j : Nat} {s : α} (h : l[j]? = some s) (hs : p s = false) : l.all p = false := by
  rw [List.all_eq_false]
  exact ⟨s, List.mem_of_getElem? h, by simp [hs]⟩

/-- A world that has come out of w by new blocks alone. -/
def Later (w : World) : Type := { x : World // Below w.heap.size w x }

instance later_nonempty (w : World) : Nonempty (Later w) := ⟨⟨w, Below.refl _ _⟩⟩

theorem wp_region_later {P : Program} {id : Nat} {Q : Exit → Act → World → Prop} {a : Act} {w : World} {l : List Oper} (hm : P.follows .mixedOrders = true) (hB : Region.lexB .any l.toArray = true)
    (h : wpQuiet P l.toArray (fun w' => ∃ x : Later w, w' = x.val) (fun a' => ∀ w', (∃ x : Later w, w' = x.val) → Q .normal a' w') l a) : (Code.region id l.toArray true).wp P Q a w :=
  wp_region_quiet (C := fun w' => ∃ x : Later w, w' = x.val) hm hB ⟨⟨w.drew, (Below.refl _ _).drew⟩, rfl⟩ (by simpa using h)

theorem Later.call {P : Program} {f : FuncId} {args : Array Value} {w : World} {x : Later w} {v : Value} (h : Calls P f args x.val (Gives x.val v)) :
    Calls P f args x.val fun e w'' => e = .returned v ∧ ∃ y : Later w, w'' = y.val :=
  h.mono fun _ w'' ⟨he, hb⟩ => ⟨he, ⟨w'', x.property.trans (hb.mono x.property.size)⟩, rfl⟩

theorem Later.cell {w : World} {p : Addr} {u : Value} (h : w.cell? p = some u) (x : Later w) : x.val.cell? p = some u := cell_below x.property h

/-- A call of a function value. -/
def CallsVal (P : Program) (f : Value) (args : Array Value) (w : World) (R : Ending → World → Prop) : Prop :=
  ∃ g az, (do let d ← Deferred.ofValue f args; invoke d.target d.args).run P w = .ok (.enter g az) w ∧ Calls P g az w R

theorem wpList_callv {P : Program} {w : World} {ops : Array Oper} {rest : List Oper} {o : Oper} {a : Act} {Q : Exit → Act → World → Prop} (x : Operand) (args : List Operand) (tys : Array TypeId) (hg : o.guard = none)
    (ho : o.op = .call { callee := .value x, args := args.toArray, argTypes := tys }) (f : Value) (hf : a.eval x = f) (az : List Value) (has : args.map a.eval = az) (v : Value)
    (hcall : CallsVal P f az.toArray w (Gives w v)) (hK : ∀ w', Below w.heap.size w w' → wpList P ops Q rest (a.put o.dst v) w') : wpList P ops Q (o :: rest) a w := by
  refine wpList_plain hg fun K hK' => ?_
  obtain ⟨g, az', hrun, hc⟩ := hcall
  unfold Oper.wp execOp
  simp only [ho, resolve, hf, List.map_toArray, has]
  simp only [Sem.run_bind] at hrun ⊢
  rw [hrun]
  simp only [Oper.upon_enter]
  refine hc.mono ?_
  rintro e w' ⟨rfl, hb⟩
  exact hK' _ _ (hK w' hb)

def ixOf {α : Type} (p : α → Bool) (l : List α) : Int := match l.findIdx? p with
  | some k => k
  | none => -1

theorem ixOf_hit {α : Type} {p : α → Bool} {l : List α} {k : Nat} {x : α} (hall : ∀ (j : Nat) (x : α), j < k → l[j]? = some x → p x = false) (hx : l[k]? = some x) (hp : p x = true) : ixOf p l = k := by
  unfold ixOf
  obtain ⟨hk, rfl⟩ := List.getElem?_eq_some_iff.1 hx
  have : l.findIdx? p = some k := by
    rw [List.findIdx?_eq_some_iff_getElem]
    exact ⟨hk, hp, fun j hj => by simp [hall j l[j] hj (List.getElem?_eq_getElem (by omega))]⟩
  rw [this]

theorem ixOf_none {α : Type} {p : α → Bool} {l : List α} (hall : ∀ (j : Nat) (x : α), j < l.length → l[j]? = some x → p x = false) : ixOf p l = -1 := by
  unfold ixOf
  have : l.findIdx? p = none := by
    rw [List.findIdx?_eq_none_iff]
    intro x hx
    obtain ⟨j, hj, rfl⟩ := List.getElem_of_mem hx
    exact hall j _ hj (List.getElem?_eq_getElem hj)
  rw [this]

theorem ixOf_any {α : Type} (p : α → Bool) (l : List α) : decide (0 ≤ ixOf p l) = l.any p := by
  unfold ixOf
  cases h : l.findIdx? p with
  | none =>
    rw [List.findIdx?_eq_none_iff] at h
    have e : l.any p = false := by
      rw [List.any_eq_false]
      intro x hx
      simp [h x hx]
    rw [e]
    rfl
  | some k =>
    obtain ⟨hk, hp, _⟩ := List.findIdx?_eq_some_iff_getElem.1 h
    rw [List.any_eq_true.2 ⟨l[k], List.getElem_mem hk, hp⟩]
    simp

theorem any_not {α : Type} (p : α → Bool) (l : List α) : (!(l.any fun x => !p x)) = l.all p := by
  induction l with
  | nil => rfl
  | cons a l ih => simp [List.any_cons, List.all_cons, ← ih]

theorem wp_name {P : Program} {c : Code} {Q : Exit → Act → World → Prop} {a : Act} {w : World} (F : World → Prop) (h : F w) (hk : ∀ W, F W → c.wp P Q a W) : c.wp P Q a w := hk w h

def sumL : List Int → Int
  | [] => 0
  | a :: l => a + sumL l

theorem sumL_append (a b : List Int) : sumL (a ++ b) = sumL a + sumL b := by
  induction a with
  | nil => simp [sumL]
  | cons x a ih => simp [sumL, ih]; omega

theorem sumL_take {l : List Int} {k : Nat} {x : Int} (h : l[k]? = some x) : sumL (l.take (k + 1)) = sumL (l.take k) + x := by
  obtain ⟨hk, rfl⟩ := List.getElem?_eq_some_iff.1 h
  rw [List.take_succ_eq_append_getElem hk, sumL_append]
  simp [sumL]

/-- All partial sums are far from the ends of int. -/
def SumOk (l : List Int) : Prop := ∀ k, k ≤ l.length → -4611686018427387904 ≤ sumL (l.take k) ∧ sumL (l.take k) ≤ 4611686018427387904

theorem sumL_bound {l : List Int} {M : Int} (hM : 0 ≤ M) (h : ∀ x ∈ l, 0 ≤ x ∧ x ≤ M) : 0 ≤ sumL l ∧ sumL l ≤ l.length * M := by
  induction l with
  | nil => simp [sumL]
  | cons a l ih =>
    have h1 := h a (by simp)
    have h2 := ih fun x hx => h x (by simp [hx])
    simp only [sumL, List.length_cons, Int.natCast_add, Int.add_mul]
    omega

theorem sumOk_of {l : List Int} (hn : l.length ≤ 1000) (h : ∀ x ∈ l, 0 ≤ x ∧ x ≤ 100000000000) : SumOk l := by
  intro k hk
  have h1 := sumL_bound (l := l.take k) (M := 100000000000) (by omega) fun x hx => h x (List.mem_of_mem_take hx)
  have h2 : (l.take k).length ≤ 1000 := by simp; omega
  omega

/-- A contract's Bool, known. -/
theorem Gives.to {P : Program} {f : FuncId} {args : Array Value} {w W : World} {a b : Bool} (e : a = b) (h : Calls P f args w (Gives W (.bool a))) : Calls P f args w (Gives W (.bool b)) := by
  rw [← e]; exact h
end Go.Proofs.YtckgapeednokjaaGreat
namespace Go.Proofs.YtckgapeednokjaaGreat
open Go Go.RowKit

/-- What a slice value hands to an append: so many cells, from its head on. -/
def Src (w : World) (A : Option Addr) (m size : Nat) (news : List Value) : Prop :=
  news.length = m * size ∧ (0 < m → ∃ ad, A = some ad ∧ ∀ j u, news[j]? = some u → w.cell? (ad.add j) = some u)

section
variable {P : Program} (w : World)
theorem run_append_nil0 (base : Nat) (t ty e : TypeId) (i : TypeInfo) (size : Nat) (ht : P.underlying t = some (.slice e)) (hi : P.info? e = some i)
    (v : Value) (n : Nat) (xs : List Value) (hown : w.ownsRow base e size v n xs) (c : Nat) : (Builtin.append_ #[t, t] ty #[v, .slice none 0 c]).run P w = .ok v w := by
  rcases hown.2 with ⟨rfl, rfl⟩ | ⟨g, cap, cur, rfl, _, _, hnc, _⟩
  · simp [Builtin.append_, run_underlying ht, sizeOf, typeInfo, hi, Builtin.lenOf, Builtin.firstCells]
  · simp [Builtin.append_, run_underlying ht, sizeOf, typeInfo, hi, Builtin.lenOf, Builtin.firstCells, hnc, storeCells]

theorem run_append_src (base : Nat) (t ty e : TypeId) (i : TypeInfo) (z : Value) (size bytes : Nat) (ht : P.underlying t = some (.slice e)) (hi : P.info? e = some i) (hz : i.zero = some z)
    (hsize : i.size = size) (hby : i.bytes = bytes) (hzs : z.cells.size = size) (hsz : 0 < size)
    (v : Value) (n : Nat) (xs : List Value) (hown : w.ownsRow base e size v n xs)
    (A : Option Addr) (m c : Nat) (news : List Value) (hr : Src w A m size news) (h1 : ∀ u ∈ news, u.oneCell' = true)
    (h63 : n + m ≤ maxLen) (hbytes : (n + m) * bytes ≤ 140737488355328) (hbase : base ≤ w.heap.size) :
    ∃ v' w', (Builtin.append_ #[t, t] ty #[v, .slice A m c]).run P w = .ok v' w' ∧ w'.ownsRow base e size v' (n + m) (xs ++ news) ∧ w.grownBy w' v.ownBlock ∧
      (v'.ownBlock = v.ownBlock ∨ v'.ownBlock = some w.heap.size) := by
  have hemp : m = 0 → news = [] := fun h => List.eq_nil_of_length_eq_zero (by rw [hr.1, h]; simp)
  rcases A with _ | ad
  · have hm : m = 0 := by
      rcases Nat.eq_zero_or_pos m with h0 | h0
      · exact h0
      · obtain ⟨ad, h, _⟩ := hr.2 h0
        cases h
    have hn := hemp hm
    subst hm
    subst hn
    exact ⟨v, w, run_append_nil0 w base t ty e i size ht hi v n xs hown c, by simpa using hown, World.grownBy.refl w _, .inl rfl⟩
  · have hcells : ∀ j u, news[j]? = some u → w.cell? (ad.add j) = some u := by
      intro j u hu
      rcases Nat.eq_zero_or_pos m with h0 | h0
      · rw [hemp h0] at hu
        simp at hu
      · obtain ⟨ad', h, hc⟩ := hr.2 h0
        cases h
        exact hc j u hu
    obtain ⟨v', w', hrun, h2, h3, _, h5⟩ := run_append_own_at (P := P) w base t ty e i z size bytes ht hi hz hsize hby hzs hsz v n xs hown ad m c news hr.1 hcells h1 h63 hbytes hbase
    exact ⟨v', w', hrun, h2, h3, h5⟩

theorem wp_append_src {o : Oper} {a : Act} {K : Act → World → Prop} {Q : Exit → Act → World → Prop} (s x : Operand) (t : TypeId)
    (ho : o.op = .call { callee := .builtin .append, args := #[s, x], argTypes := #[t, t] })
    (base : Nat) (e : TypeId) (i : TypeInfo) (z : Value) (size bytes : Nat) (ht : P.underlying t = some (.slice e)) (hi : P.info? e = some i) (hz : i.zero = some z)
    (hsize : i.size = size) (hby : i.bytes = bytes) (hzs : z.cells.size = size) (hsz : 0 < size)
    (v : Value) (n : Nat) (xs : List Value) (hs : a.eval s = v) (hown : w.ownsRow base e size v n xs)
    (A : Option Addr) (m c : Nat) (news : List Value) (hx : a.eval x = .slice A m c) (hr : Src w A m size news) (h1 : ∀ u ∈ news, u.oneCell' = true)
    (h63 : n + m ≤ maxLen) (hbytes : (n + m) * bytes ≤ 140737488355328) (hbase : base ≤ w.heap.size)
    (h : ∀ v' w', w'.ownsRow base e size v' (n + m) (xs ++ news) → w.grownBy w' v.ownBlock → (v'.ownBlock = v.ownBlock ∨ v'.ownBlock = some w.heap.size) → K (a.put o.dst v') w') : o.wp P a w K Q := by
  obtain ⟨v', w', hrun, h2, h3, h4⟩ := run_append_src (P := P) w base t o.type e i z size bytes ht hi hz hsize hby hzs hsz v n xs hown A m c news hr h1 h63 hbytes hbase
  unfold Oper.wp execOp
  simp only [ho, resolve, invoke, builtin, Sem.run_bind, Sem.run_pure, Result.andThen_ok, List.map_toArray, List.map_cons, List.map_nil, hs, hx, hrun]
  exact h v' w' h2 h3 h4

theorem wpList_append_src {ops : Array Oper} {rest : List Oper} {o : Oper} {a : Act} {Q : Exit → Act → World → Prop} (hgd : o.guard = none) (s x : Operand) (t : TypeId)
    (ho : o.op = .call { callee := .builtin .append, args := #[s, x], argTypes := #[t, t] })
    (base : Nat) (e : TypeId) (i : TypeInfo) (z : Value) (size bytes : Nat) (ht : P.underlying t = some (.slice e)) (hi : P.info? e = some i) (hz : i.zero = some z)
    (hsize : i.size = size) (hby : i.bytes = bytes) (hzs : z.cells.size = size) (hsz : 0 < size)
    (v : Value) (n : Nat) (xs : List Value) (hs : a.eval s = v) (hown : w.ownsRow base e size v n xs)
    (A : Option Addr) (m c : Nat) (news : List Value) (hx : a.eval x = .slice A m c) (hr : Src w A m size news) (h1 : ∀ u ∈ news, u.oneCell' = true)
    (h63 : n + m ≤ maxLen) (hbytes : (n + m) * bytes ≤ 140737488355328) (hbase : base ≤ w.heap.size)
    (h : ∀ v' w', w'.ownsRow base e size v' (n + m) (xs ++ news) → w.grownBy w' v.ownBlock → (v'.ownBlock = v.ownBlock ∨ v'.ownBlock = some w.heap.size) → wpList P ops Q rest (a.put o.dst v') w') : wpList P ops Q (o :: rest) a w :=
  wpList_plain hgd fun _ hK => wp_append_src w s x t ho base e i z size bytes ht hi hz hsize hby hzs hsz v n xs hs hown A m c news hx hr h1 h63 hbytes hbase fun v' w' h2 h3 h4 => hK _ _ (h v' w' h2 h3 h4)
end

section
variable {w w' : World}
/-- An owned row of numbers reads as they are. -/
theorem nums_of_own {K : IntKind} {base : Nat} {e : TypeId} {v : Value} {n : Nat} {l : List Int} (h : w.ownsRow base e 1 v n (l.map (.int K))) : NumsAt K w v l := by
  have hn : l.length = n := by have := h.1; simpa using this
  rcases h.2 with ⟨rfl, h0⟩ | ⟨g, cap, cur, rfl, _, hg, hc, hm, hs, ht⟩
  · have : l.length = 0 := by omega
    exact ⟨none, 0, by rw [this], by omega, by simp [maxLen], fun hp => by omega⟩
  · refine ⟨some ⟨g, 0, none⟩, cap, by rw [hn], by omega, hm, fun hp => ⟨g, 0, rfl, fun k hk => ?_⟩⟩
    have h1 := h.cellAt k (by omega)
    simp only [Nat.zero_add]
    rw [h1, List.getElem?_map, List.getElem?_eq_getElem hk]
    rfl

theorem src_of_nums {K : IntKind} {A : Option Addr} {n c : Nat} {l : List Int} (h : NumsAt K w (.slice A n c) l) : Src w A l.length 1 (l.map (.int K)) := by
  obtain ⟨A', c', e, _, _, hT⟩ := h
  cases e
  refine ⟨by simp, fun hp => ?_⟩
  obtain ⟨b, o, e, hc⟩ := hT hp
  refine ⟨_, e, fun j u hu => ?_⟩
  rw [List.getElem?_map] at hu
  cases hj : l[j]? with
  | none => rw [hj] at hu; cases hu
  | some x =>
    rw [hj] at hu
    cases hu
    have hk : j < l.length := (List.getElem?_eq_some_iff.1 hj).1
    have := hc j hk
    rw [hj] at this
    rw [Addr.add_lit]
    exact this

theorem below_grown {B : Nat} {a : World} {v : Value} (h : Below B a w) (hg : w.grownBy w' v.ownBlock) (hB : B ≤ w.heap.size) {base : Nat} {e : TypeId} {size n : Nat} {xs : List Value} (ho : w.ownsRow base e size v n xs) (hb : B ≤ base) : Below B a w' :=
  h.grown hg hB fun k hk => Nat.le_trans hb (ho.lt k hk).1

/-- Rows of different element types lie apart. -/
theorem own_apart {base base' : Nat} {e e' : TypeId} {size size' n n' : Nat} {v v' : Value} {xs xs' : List Value} (h : w.ownsRow base e size v n xs) (h' : w.ownsRow base' e' size' v' n' xs') (hne : e ≠ e') :
    v.ownBlock = none ∨ v.ownBlock ≠ v'.ownBlock := by
  rcases h.2 with ⟨rfl, _⟩ | ⟨g, cap, cur, rfl, _, hg, _⟩
  · exact .inl rfl
  · right
    rcases h'.2 with ⟨rfl, _⟩ | ⟨g', cap', cur', rfl, _, hg', _⟩
    · simp [Value.ownBlock]
    · intro e1
      simp only [Value.ownBlock, Option.some.injEq] at e1
      subst e1
      rw [hg] at hg'
      cases hg'
      exact hne rfl

theorem own_below {base : Nat} {e : TypeId} {size n : Nat} {v : Value} {xs : List Value} (h : w.ownsRow base e size v n xs) (hb : Below w.heap.size w w') : w'.ownsRow base e size v n xs := by
  refine h.kept (row := none) ⟨hb.os, hb.tape, hb.output, hb.size, fun k hk _ => hb.block k hk⟩ ?_
  cases v.ownBlock <;> simp

theorem ints_one {K : IntKind} (l : List Int) : ∀ u ∈ l.map (Value.int K), u.oneCell' = true := ints_oneCell K l
theorem own_form {base : Nat} {e : TypeId} {size n : Nat} {v : Value} {xs : List Value} (h : w.ownsRow base e size v n xs) : ∃ A c, v = .slice A n c := by
  rcases h.2 with ⟨rfl, rfl⟩ | ⟨g, cap, cur, rfl, _⟩
  · exact ⟨none, 0, rfl⟩
  · exact ⟨_, _, rfl⟩
theorem own_mono {base base' : Nat} {e : TypeId} {size n : Nat} {v : Value} {xs : List Value} (h : w.ownsRow base e size v n xs) (hb : base' ≤ base) : w.ownsRow base' e size v n xs := by
  refine ⟨h.1, ?_⟩
  rcases h.2 with h0 | ⟨g, cap, cur, h1, h2, h3⟩
  · exact .inl h0
  · exact .inr ⟨g, cap, cur, h1, by omega, h3⟩
theorem src_new (w : World) (xs : List Value) (t : TypeId) (m size : Nat) (h : xs.length = m * size) : Src (w.alloc (.cells xs.toArray t)) (some ⟨w.heap.size, 0, none⟩) m size xs := by
  refine ⟨h, fun _ => ⟨_, rfl, fun j u hu => ?_⟩⟩
  rw [Addr.add_lit, cell_of_row _ _ _ _ _ _ (heap_alloc_new w _)]
  simpa using hu
end
end Go.Proofs.YtckgapeednokjaaGreat
namespace Go.Proofs.YtckgapeednokjaaGreat
open Go Go.RowKit

section
variable {P : Program} {ops : Array Oper} {Q : Exit → Act → World → Prop} {md : Region.Mode} {S : World → Prop} {kp : Nat → Bool}

/-- Whatever order is picked from here on; S holds behind every operation that kp names. -/
def wpAnyF (P : Program) (md : Region.Mode) (ops : Array Oper) (Q : Exit → Act → World → Prop) (S : World → Prop) (kp : Nat → Bool) : Nat → Array Bool → Act → World → Prop
  | 0, listed, a, w => Region.ready md ops listed = [] ∧ Q .normal a w
  | fuel + 1, listed, a, w =>
    (Region.ready md ops listed = [] → Q .normal a w) ∧
    ∀ i ∈ Region.ready md ops listed, wpOp P ops Q i (fun a' w' => (kp i = true → S w') ∧ wpAnyF P md ops Q S kp fuel (listed.setIfInBounds i true) a' w') a w

theorem wpAny_of_front : ∀ (fuel : Nat) (listed : Array Bool) (a : Act) (w : World), wpAnyF P md ops Q S kp fuel listed a w → wpAny P md ops Q fuel listed a w
  | 0, _, _, _, h => h
  | fuel + 1, _, _, _, h => ⟨h.1, fun i hi => wpOp_mono (fun a' w' h' => wpAny_of_front fuel _ a' w' h'.2) (h.2 i hi)⟩

/-- An operation that may come up now is taken first, if it yields its value in every world that meets S; what need not keep S waits for it. -/
theorem wpAnyF_first {i : Nat} {oi : Oper} {v : Value} (hi : ops[i]? = some oi) (hsel : ∀ (j : Nat) (o : Oper) cs b, ops[j]? = some o → o.op ≠ .select cs b)
    (hQ : ∀ c a w, Q (.panic c) (a.put oi.dst v) w → Q (.panic c) a w)
    (hwait : ∀ j oj, ops[j]? = some oj → j ≠ i → kp j = false → ∃ e ∈ oj.after, Region.binds md e = true ∧ e.on = i) :
    ∀ (fuel : Nat) (listed : Array Bool) (a : Act) (w : World),
      (∀ j oj, ops[j]? = some oj → j ≠ i → listed.getD j true = false → (∀ e ∈ oj.after, Region.binds md e = true → e.on ≠ i) → oi.apart ops oj = true) →
      i ∈ Region.ready md ops listed → YieldsIf P ops S oi v a → S w →
      wpAnyF P md ops Q S kp fuel (listed.setIfInBounds i true) (a.put oi.dst v) w → wpAnyF P md ops Q S kp (fuel + 1) listed a w := by
  intro fuel
  induction fuel with
  | zero =>
    intro listed a w _ hr hy hS H
    refine ⟨fun h => (by rw [h] at hr; cases hr), fun j hj => ?_⟩
    by_cases hji : j = i
    · subst hji; exact hy.wpOp hi hS ⟨fun _ => hS, H⟩
    · have := ready_mono hj hji
      rw [H.1] at this
      cases this
  | succ fuel ih =>
    intro listed a w hfree hr hy hS H
    refine ⟨fun h => (by rw [h] at hr; cases hr), fun j hj => ?_⟩
    by_cases hji : j = i
    · subst hji; exact hy.wpOp hi hS ⟨fun _ => hS, H⟩
    · have h1 := H.2 j (ready_mono hj hji)
      obtain ⟨hjun, oj, hoj, hall⟩ := mem_ready.1 hj
      have hnot : ∀ e ∈ oj.after, Region.binds md e = true → e.on ≠ i := fun e he hb heq => by
        have h1 := hall e he hb
        have h0 := (mem_ready.1 hr).1
        rw [heq] at h1
        rcases Nat.lt_or_ge i listed.size with h' | h'
        · simp [h'] at h0 h1; rw [h0] at h1; cases h1
        · simp [Array.getElem?_eq_none h'] at h1
      have hkp : kp j = true := by
        cases hk : kp j with
        | true => rfl
        | false =>
          obtain ⟨e, he, hb, ho⟩ := hwait j oj hoj hji hk
          exact absurd ho (hnot e he hb)
      have h2 := wpOp_putIf hoj (hfree j oj hoj hji hjun hnot) (fun cs b => hsel i oi cs b hi) (fun cs b => hsel j oj cs b hoj) hQ hy h1
      have hfree' : ∀ k ok, ops[k]? = some ok → k ≠ i → (listed.setIfInBounds j true).getD k true = false →
          (∀ e ∈ ok.after, Region.binds md e = true → e.on ≠ i) → oi.apart ops ok = true := fun k ok hk hki hun hno => by
        refine hfree k ok hk hki ?_ hno
        by_cases hjk : j = k
        · subst hjk; exact hjun
        · rw [getD_set_ne true hjk] at hun; exact hun
      refine wpOp_mono (fun a' w' h3 => ⟨h3.2.1, ih (listed.setIfInBounds j true) a' w' hfree' (ready_mono hr (Ne.symm hji)) h3.1 (h3.2.1 hkp) ?_⟩) h2
      rw [Array.setIfInBounds_comm _ _ hji]
      exact h3.2.2

/-- All that need not keep S wait for number i. -/
def frontB (md : Region.Mode) (ops : Array Oper) (kp : Nat → Bool) (i : Nat) : Bool := (List.range ops.size).all fun j => kp j || j == i || Region.waitsFor md ops j i

theorem wpAnyF_take {i : Nat} {oi : Oper} {v : Value} {fuel : Nat} {listed : Array Bool} {a : Act} {w : World} (hi : ops[i]? = some oi)
    (hs : Region.noSelect ops = true) (hf : Region.free md ops listed i = true) (hr : (Region.ready md ops listed).contains i = true) (hk : frontB md ops kp i = true)
    (hQ : ∀ c a w, Q (.panic c) (a.put oi.dst v) w → Q (.panic c) a w) (hy : YieldsIf P ops S oi v a) (hS : S w)
    (h : wpAnyF P md ops Q S kp fuel (listed.setIfInBounds i true) (a.put oi.dst v) w) : wpAnyF P md ops Q S kp (fuel + 1) listed a w := by
  refine wpAnyF_first hi (Region.noSelect_spec hs) hQ (fun j oj hj hji hkj => ?_) fuel listed a w (Region.free_spec hi hf) (by simpa using hr) hy hS h
  have h1 := List.all_eq_true.1 hk j (List.mem_range.2 (Array.getElem?_eq_some_iff.1 hj).1)
  simp only [hkj, Bool.false_or, Bool.or_eq_true, beq_iff_eq] at h1
  rcases h1 with h1 | h1
  · exact absurd h1 hji
  · obtain ⟨oj', hj', e, he⟩ := Region.waitsFor_spec h1
    rw [hj] at hj'
    cases hj'
    exact ⟨e, he⟩

theorem wpAnyF_one {i : Nat} {o : Oper} {fuel : Nat} {listed : Array Bool} {a : Act} {w : World} (hr : Region.ready md ops listed = [i]) (ho : ops[i]? = some o)
    (h : ∀ K' : Act → World → Prop, Hid (∀ a w, (kp i = true → S w) → wpAnyF P md ops Q S kp fuel (listed.setIfInBounds i true) a w → K' a w) → if Region.wanted o (yielded ops a.tmps) = true then Oper.wp P o a w K' Q else K' (a.put o.dst undef) w) :
    wpAnyF P md ops Q S kp (fuel + 1) listed a w := by
  refine ⟨fun h0 => (by rw [hr] at h0; cases h0), fun j hj => ?_⟩
  rw [hr] at hj
  obtain rfl : j = i := by simpa using hj
  exact wpOp_step ho fun K' hK => h K' fun a w hS hW => hK a w ⟨hS, hW⟩

theorem wpAnyF_done {listed : Array Bool} {a : Act} {w : World} (hr : Region.ready md ops listed = []) (h : Q .normal a w) : ∀ fuel, wpAnyF P md ops Q S kp fuel listed a w
  | 0 => ⟨hr, h⟩
  | _ + 1 => ⟨fun _ => h, by rw [hr]; simp⟩

theorem wp_region_front {id : Nat} {a : Act} {w : World} (kp : Nat → Bool) (S : World → Prop) (hm : P.follows .mixedOrders = true)
    (h : wpAnyF P .any ops Q S kp ops.size (Array.replicate ops.size false) a w.drew) : (Code.region id ops true).wp P Q a w :=
  wp_region_any hm (wpAny_of_front _ _ _ _ h)
end

/-! ### One walk: the front in the order of the text, then the rest in the order that is forced -/
/-- Operations that hand back a value and nothing else. -/
def pureKind : Op → Bool
  | .move _ | .assign _ | .nilCheck _ | .pick _ _ _ | .load _ _ | .fieldAddr _ _ _ | .field _ _ _ | .indexAddr _ _ _ | .index _ _ _ | .binOp _ _ _ _ _ | .unOp _ _ _ | .convert _ _ _ | .extract _ _ | .build _ _ | .lookup _ _ _ _ | .makeFunc _ _ _ | .slice _ _ _ _ _ => true
  | .call { callee := .builtin .len, .. } => true
  | _ => false

theorem run_value {s : Sem Value} {P : Program} {w w' : World} {n : Next} (h : (do pure (Next.value (← s)) : Sem Next).run P w = .ok n w') : ∃ v, n = .value v := by
  simp only [Sem.run_bind] at h
  cases hs : s.run P w with
  | ok v w1 =>
    rw [hs] at h
    simp only [Result.andThen_ok, Sem.run_pure] at h
    cases h
    exact ⟨v, rfl⟩
  | halt x w1 =>
    rw [hs] at h
    cases h

theorem andThen_value {r : Result Value} {n : Next} {w' : World} (h : (r.andThen fun a w' => Result.ok (Next.value a) w') = .ok n w') : ∃ v, n = .value v := by
  cases r with
  | ok v w1 =>
    simp only [Result.andThen_ok] at h
    cases h
    exact ⟨v, rfl⟩
  | halt x w1 => cases h

theorem quiet_value {P : Program} {C : World → Prop} {o : Oper} {a : Act} {w : World} {v : Value} (hp : ∀ n w', (execOp a.eval o).run P w = .ok n w' → ∃ u, n = .value u) (h : o.quietAt P a C w v) :
    (execOp a.eval o).run P w = .ok (.value v) w := by
  unfold Oper.quietAt at h
  generalize hr : (execOp a.eval o).run P w = r at *
  cases r with
  | ok n w' =>
    obtain ⟨u, rfl⟩ := hp n w' rfl
    obtain ⟨rfl, rfl⟩ := h
    rfl
  | halt x w' => exact h.elim

theorem pure_value {P : Program} {o : Oper} {ρ : Operand → Value} {w w' : World} {n : Next} (hk : pureKind o.op = true) (h : (execOp ρ o).run P w = .ok n w') : ∃ v, n = .value v := by
  unfold execOp at h
  cases hop : o.op <;> rw [hop] at hk h <;> (try (exfalso; simp [pureKind] at hk; done))
  case call c =>
    obtain ⟨callee, args, tys⟩ := c
    cases callee <;> (try (exfalso; simp [pureKind] at hk; done))
    rename_i b
    cases b <;> (try (exfalso; simp [pureKind] at hk; done))
    simp only [resolve, invoke, builtin, Sem.run_bind, Sem.run_pure, Result.andThen_ok] at h
    exact andThen_value h
  case move x => simp only [Sem.run_pure] at h; cases h; exact ⟨_, rfl⟩
  case assign x => simp only [Sem.run_pure] at h; cases h; exact ⟨_, rfl⟩
  case pick c a b =>
    simp only [Sem.run_bind] at h
    cases hs : (asBool (ρ c)).run P w with
    | ok v w1 =>
      rw [hs] at h
      simp only [Result.andThen_ok, Sem.run_pure] at h
      cases h
      exact ⟨_, rfl⟩
    | halt x w1 =>
      rw [hs] at h
      cases h
  case nilCheck x =>
    simp only at h
    split at h
    · simp [runtimePanic] at h
    · simp [runtimePanic] at h
    · simp [runtimePanic] at h
    · split at h
      · simp [runtimePanic] at h
      · simp only [Sem.run_bind] at h
        cases h1 : program.run P w with
        | halt z z' => rw [h1] at h; cases h
        | ok a w1 =>
          rw [h1] at h
          simp only [Result.andThen_ok] at h
          generalize (nilAhead (a.types.size + Made.depth) _ _ _).run P w1 = r2 at h
          cases r2 with
          | halt z z' => cases h
          | ok b w2 =>
            simp only [Result.andThen_ok] at h
            split at h
            · simp only [Sem.run_bind] at h
              generalize (unsupported _ : Sem Unit).run P w2 = r3 at h
              cases r3 with
              | halt z z' => cases h
              | ok c w3 =>
                simp only [Result.andThen_ok, Sem.run_pure] at h
                cases h
                exact ⟨_, rfl⟩
            · simp only [Sem.run_pure] at h
              cases h
              exact ⟨_, rfl⟩
      · simp only [Sem.run_pure] at h; cases h; exact ⟨_, rfl⟩
    · simp only [Sem.run_pure] at h; cases h; exact ⟨_, rfl⟩
  all_goals exact run_value h

def Meets (S : World → Prop) : Type := { x : World // S x }

/-- The rest in its forced order; S is shown behind what kp names. -/
def wpSeqF (P : Program) (ops : Array Oper) (Q : Exit → Act → World → Prop) (S : World → Prop) (kp : Nat → Bool) : Nat → List Oper → Act → World → Prop
  | _, [], a, w => Q .normal a w
  | i, o :: rest, a, w => if Region.wanted o (yielded ops a.tmps) then o.wp P a w (fun a' w' => (kp i = true → S w') ∧ wpSeqF P ops Q S kp (i + 1) rest a' w') Q ∨ (o.asks P a w ∧ LetsOut Q)
    else (kp i = true → S w) ∧ wpSeqF P ops Q S kp (i + 1) rest (a.put o.dst undef) w

section
variable {P : Program} {ops : Array Oper} {Q : Exit → Act → World → Prop} {md : Region.Mode} {S : World → Prop} {kp : Nat → Bool}
theorem wpAnyF_of_seq : ∀ (l : List Oper) (k : Nat) (listed : Array Bool) (a : Act) (w : World), (∀ j, l[j]? = ops[k + j]?) → Region.seqB md ops l.length k listed = true →
    wpSeqF P ops Q S kp k l a w → wpAnyF P md ops Q S kp l.length listed a w
  | [], k, listed, a, w, _, hB, h => ⟨by simpa [Region.seqB] using hB, h⟩
  | o :: l, k, listed, a, w, hl, hB, h => by
    have h0 : ops[k]? = some o := by simpa using (hl 0).symm
    simp only [List.length_cons, Region.seqB, Bool.and_eq_true, beq_iff_eq] at hB
    have hr : Region.ready md ops listed = [k] := of_decide_eq_true hB.1
    refine ⟨fun h0 => (by rw [hr] at h0; cases h0), fun j hj => ?_⟩
    rw [hr] at hj
    obtain rfl : j = k := by simpa using hj
    have hw : wpOp P ops Q j (fun a' w' => (kp j = true → S w') ∧ wpSeqF P ops Q S kp (j + 1) l a' w') a w := by
      unfold wpOp
      simp only [h0]
      unfold wpSeqF at h
      split
      · rename_i hw
        rw [if_pos hw] at h
        exact h
      · rename_i hw
        rw [if_neg hw] at h
        exact h
    exact wpOp_mono (fun a' w' h' => ⟨h'.1, wpAnyF_of_seq l (j + 1) _ a' w' (fun i => by have := hl (i + 1); simpa [Nat.add_assoc, Nat.add_comm 1 i] using this) hB.2 h'.2⟩) hw

theorem wpSeqF_nil {i : Nat} {a : Act} {w : World} (h : Q .normal a w) : wpSeqF P ops Q S kp i [] a w := h
theorem wpSeqF_step {i : Nat} {o : Oper} {rest : List Oper} {a : Act} {w : World}
    (h : ∀ K' : Act → World → Prop, Hid (∀ a w, (kp i = true → S w) → wpSeqF P ops Q S kp (i + 1) rest a w → K' a w) → if Region.wanted o (yielded ops a.tmps) = true then Oper.wp P o a w K' Q else K' (a.put o.dst undef) w) :
    wpSeqF P ops Q S kp i (o :: rest) a w := by
  have := h (fun a' w' => (kp i = true → S w') ∧ wpSeqF P ops Q S kp (i + 1) rest a' w') (fun a w h1 h2 => ⟨h1, h2⟩)
  unfold wpSeqF
  split
  · rename_i hw; rw [if_pos hw] at this; exact .inl this
  · rename_i hw; rw [if_neg hw] at this; exact this

/-- The front and the rest, as one Bool over the region. -/
def Region.frontSeqB (md : Region.Mode) (ops : Array Oper) (kp : Nat → Bool) (m : Nat) : Nat → Nat → Array Bool → Bool
  | 0, k, listed => Region.seqB md ops m k listed
  | n + 1, k, listed => (match ops[k]? with | some o => pureKind o.op | none => false) && ((Region.ready md ops listed).contains k && (Region.free md ops listed k && (frontB md ops kp k && Region.frontSeqB md ops kp m n (k + 1) (listed.setIfInBounds k true))))

theorem wpAnyF_front (hs : Region.noSelect ops = true) (hQ : ∀ c a d v w, Q (.panic c) (a.put d v) w → Q (.panic c) a w) : ∀ (l r : List Oper) (k : Nat) (listed : Array Bool) (a : Act) (w : World),
    (∀ j, (l ++ r)[j]? = ops[k + j]?) → Region.frontSeqB md ops kp r.length l.length k listed = true → S w →
    wpQuiet P ops (fun w' => ∃ x : Meets S, w' = x.val) (fun a' => wpSeqF P ops Q S kp (k + l.length) r a' w) l a → wpAnyF P md ops Q S kp (l ++ r).length listed a w
  | [], r, k, listed, a, w, hl, hB, _, h => wpAnyF_of_seq r k listed a w (by simpa using hl) (by simpa [Region.frontSeqB] using hB) (by simpa [wpQuiet] using h)
  | o :: l, r, k, listed, a, w, hl, hB, hS, h => by
    have h0 : ops[k]? = some o := by simpa using (hl 0).symm
    simp only [List.length_cons, Region.frontSeqB, h0, Bool.and_eq_true] at hB
    obtain ⟨hpk, hr, hf, hk, hB'⟩ := hB
    have hq : qOp P ops (fun w' => ∃ x : Meets S, w' = x.val) k (wpQuiet P ops (fun w' => ∃ x : Meets S, w' = x.val) (fun a' => wpSeqF P ops Q S kp (k + (o :: l).length) r a' w) l) a := by
      unfold qOp; simp only [h0]; exact h
    obtain ⟨v, hy, hK⟩ := yieldsIn_of_qOp h0 hq
    have hy' : YieldsIf P ops S o v a := by
      rcases hy with ⟨hw, hv⟩ | hy
      · exact .inl ⟨hw, fun w' hS' => quiet_value (fun n w1 h1 => pure_value hpk h1) (hv w' ⟨⟨w', hS'⟩, rfl⟩)⟩
      · exact .inr hy
    refine wpAnyF_take h0 hs hf hr hk (fun c a w => hQ c a _ _ w) hy' hS ?_
    exact wpAnyF_front hs hQ l r (k + 1) _ _ w (fun j => by have := hl (j + 1); simpa [Nat.add_assoc, Nat.add_comm 1 j] using this) hB' hS
      (by rw [show k + 1 + l.length = k + (o :: l).length from by simp only [List.length_cons]; omega]; exact hK)

/-- **A region that draws its order: its first n operations (which only read, in every world that meets S), then the rest, whose order is forced.** -/
theorem wp_region_fs {id : Nat} {a : Act} {w : World} {l : List Oper} (n : Nat) (kp : Nat → Bool) (S : World → Prop) (hm : P.follows .mixedOrders = true)
    (hB : (Region.noSelect l.toArray && (decide (n ≤ l.length) && Region.frontSeqB .any l.toArray kp (l.length - n) n 0 (Array.replicate l.toArray.size false))) = true)
    (hQ : ∀ c a d v w, Q (.panic c) (a.put d v) w → Q (.panic c) a w) (hS : S w.drew)
    (h : Nonempty (Meets S) → wpQuiet P l.toArray (fun w' => ∃ x : Meets S, w' = x.val) (fun a' => wpSeqF P l.toArray Q S kp n (l.drop n) a' w.drew) (l.take n) a) : (Code.region id l.toArray true).wp P Q a w := by
  simp only [Bool.and_eq_true, decide_eq_true_eq] at hB
  obtain ⟨h1, h2, h3⟩ := hB
  have htl : (l.take n).length = n := by simp; omega
  have hdl : (l.drop n).length = l.length - n := by simp
  have hcat : l.take n ++ l.drop n = l := List.take_append_drop n l
  refine wp_region_front kp S hm ?_
  have := wpAnyF_front (P := P) (ops := l.toArray) (Q := Q) (md := .any) (S := S) (kp := kp) h1 hQ (l.take n) (l.drop n) 0 (Array.replicate l.toArray.size false) a w.drew
    (fun j => by rw [hcat]; simp) (by rw [htl, hdl]; exact h3) hS (by rw [htl, Nat.zero_add]; exact h ⟨⟨w.drew, hS⟩⟩)
  rw [hcat] at this
  simpa using this
end
end Go.Proofs.YtckgapeednokjaaGreat
namespace Go.Proofs.YtckgapeednokjaaGreat
open Go Go.RowKit

/-- The operations of these numbers. -/
def pick (l : List Oper) (is : List Nat) : List Oper := is.filterMap (l[·]?)

section
variable {P : Program} {ops : Array Oper} {Q : Exit → Act → World → Prop} {md : Region.Mode} {S : World → Prop} {kp : Nat → Bool}

theorem wpQuiet_mono {C : World → Prop} {K K' : Act → Prop} (h : ∀ a, K a → K' a) : ∀ (l : List Oper) (a : Act), wpQuiet P ops C K l a → wpQuiet P ops C K' l a
  | [], a, hk => h a hk
  | o :: l, a, hk => by
    unfold wpQuiet at *
    split
    · rename_i hw
      rw [if_pos hw] at hk
      exact Oper.quiet_mono (fun a => wpQuiet_mono h l a) hk
    · rename_i hw
      rw [if_neg hw] at hk
      exact wpQuiet_mono h l _ hk

/-- These may come first, one behind the other. -/
def frontPickB (md : Region.Mode) (ops : Array Oper) (kp : Nat → Bool) : List Nat → Array Bool → Bool
  | [], _ => true
  | i :: is, listed => (match ops[i]? with | some o => pureKind o.op | none => false) && ((Region.ready md ops listed).contains i && (Region.free md ops listed i && (frontB md ops kp i && frontPickB md ops kp is (listed.setIfInBounds i true))))

def listAll (is : List Nat) (listed : Array Bool) : Array Bool := is.foldl (fun l i => l.setIfInBounds i true) listed

theorem wpAnyF_pick (hs : Region.noSelect ops = true) (hQ : ∀ c a d v w, Q (.panic c) (a.put d v) w → Q (.panic c) a w) (m : Nat) : ∀ (is : List Nat) (listed : Array Bool) (a : Act) (w : World),
    frontPickB md ops kp is listed = true → S w →
    wpQuiet P ops (fun w' => ∃ x : Meets S, w' = x.val) (fun a' => wpAnyF P md ops Q S kp m (listAll is listed) a' w) (pick ops.toList is) a → wpAnyF P md ops Q S kp (is.length + m) listed a w
  | [], listed, a, w, _, _, h => by simpa [pick, wpQuiet, listAll] using h
  | i :: is, listed, a, w, hB, hS, h => by
    cases h0 : ops[i]? with
    | none => simp [frontPickB, h0] at hB
    | some o =>
      have hp : pick ops.toList (i :: is) = o :: pick ops.toList is := by
        unfold pick
        rw [List.filterMap_cons]
        simp [h0]
      simp only [frontPickB, h0, Bool.and_eq_true] at hB
      obtain ⟨hpk, hr, hf, hk, hB'⟩ := hB
      rw [hp] at h
      have hq : qOp P ops (fun w' => ∃ x : Meets S, w' = x.val) i (wpQuiet P ops (fun w' => ∃ x : Meets S, w' = x.val) (fun a' => wpAnyF P md ops Q S kp m (listAll (i :: is) listed) a' w) (pick ops.toList is)) a := by
        unfold qOp; simp only [h0]; exact h
      obtain ⟨v, hy, hK⟩ := yieldsIn_of_qOp h0 hq
      have hy' : YieldsIf P ops S o v a := by
        rcases hy with ⟨hw, hv⟩ | hy
        · exact .inl ⟨hw, fun w' hS' => quiet_value (fun n w1 h1 => pure_value hpk h1) (hv w' ⟨⟨w', hS'⟩, rfl⟩)⟩
        · exact .inr hy
      rw [show (i :: is).length + m = (is.length + m) + 1 from by simp only [List.length_cons]; omega]
      exact wpAnyF_take h0 hs hf hr hk (fun c a w => hQ c a _ _ w) hy' hS (wpAnyF_pick hs hQ m is _ _ w hB' hS hK)

/-- The rest in the order of these numbers. -/
def seqPickB (md : Region.Mode) (ops : Array Oper) : List Nat → Array Bool → Bool
  | [], listed => (Region.ready md ops listed).isEmpty
  | i :: is, listed => decide (Region.ready md ops listed = [i]) && seqPickB md ops is (listed.setIfInBounds i true)

/-- The rest, S shown behind what kp names. -/
def wpSeqP (P : Program) (ops : Array Oper) (Q : Exit → Act → World → Prop) (S : World → Prop) (kp : Nat → Bool) : List (Nat × Oper) → Act → World → Prop
  | [], a, w => Q .normal a w
  | (i, o) :: rest, a, w => if Region.wanted o (yielded ops a.tmps) then o.wp P a w (fun a' w' => (kp i = true → S w') ∧ wpSeqP P ops Q S kp rest a' w') Q ∨ (o.asks P a w ∧ LetsOut Q)
    else (kp i = true → S w) ∧ wpSeqP P ops Q S kp rest (a.put o.dst undef) w

def pickN (l : List Oper) (is : List Nat) : List (Nat × Oper) := is.filterMap fun i => (l[i]?).map fun o => (i, o)

theorem wpAnyF_of_pick : ∀ (is : List Nat) (listed : Array Bool) (a : Act) (w : World), (∀ i ∈ is, i < ops.size) → seqPickB md ops is listed = true →
    wpSeqP P ops Q S kp (pickN ops.toList is) a w → wpAnyF P md ops Q S kp is.length listed a w
  | [], listed, a, w, _, hB, h => ⟨by simpa [seqPickB] using hB, by simpa [pickN, wpSeqP] using h⟩
  | k :: is, listed, a, w, hlt, hB, h => by
    have hk := hlt k (by simp)
    have h0 : ops[k]? = some ops[k] := Array.getElem?_eq_getElem hk
    have hp : pickN ops.toList (k :: is) = (k, ops[k]) :: pickN ops.toList is := by
      unfold pickN
      rw [List.filterMap_cons]
      simp [h0]
    rw [hp] at h
    simp only [seqPickB, Bool.and_eq_true, decide_eq_true_eq] at hB
    refine ⟨fun h1 => (by rw [hB.1] at h1; cases h1), fun j hj => ?_⟩
    rw [hB.1] at hj
    obtain rfl : j = k := by simpa using hj
    have hw : wpOp P ops Q j (fun a' w' => (kp j = true → S w') ∧ wpSeqP P ops Q S kp (pickN ops.toList is) a' w') a w := by
      unfold wpOp
      simp only [h0]
      unfold wpSeqP at h
      split
      · rename_i hw
        rw [if_pos hw] at h
        exact h
      · rename_i hw
        rw [if_neg hw] at h
        exact h
    exact wpOp_mono (fun a' w' h' => ⟨h'.1, wpAnyF_of_pick is _ a' w' (fun i hi => hlt i (by simp [hi])) hB.2 h'.2⟩) hw

theorem wpSeqP_nil {a : Act} {w : World} (h : Q .normal a w) : wpSeqP P ops Q S kp [] a w := h
theorem wpSeqP_step {i : Nat} {o : Oper} {rest : List (Nat × Oper)} {a : Act} {w : World}
    (h : ∀ K' : Act → World → Prop, Hid (∀ a w, (kp i = true → S w) → wpSeqP P ops Q S kp rest a w → K' a w) → if Region.wanted o (yielded ops a.tmps) = true then Oper.wp P o a w K' Q else K' (a.put o.dst undef) w) :
    wpSeqP P ops Q S kp ((i, o) :: rest) a w := by
  have := h (fun a' w' => (kp i = true → S w') ∧ wpSeqP P ops Q S kp rest a' w') (fun a w h1 h2 => ⟨h1, h2⟩)
  unfold wpSeqP
  split
  · rename_i hw; rw [if_pos hw] at this; exact .inl this
  · rename_i hw; rw [if_neg hw] at this; exact this

/-- **A region that draws its order: these operations first (they only read, in every world that meets S), then these, in an order that is forced.** -/
theorem wp_region_pick {id : Nat} {a : Act} {w : World} {l : List Oper} (fs rs : List Nat) (kp : Nat → Bool) (S : World → Prop) (hm : P.follows .mixedOrders = true)
    (hB : (Region.noSelect l.toArray && (frontPickB .any l.toArray kp fs (Array.replicate l.toArray.size false) && (seqPickB .any l.toArray rs (listAll fs (Array.replicate l.toArray.size false)) && (decide (fs.length + rs.length = l.length) && rs.all fun i => decide (i < l.length))))) = true)
    (hQ : ∀ c a d v w, Q (.panic c) (a.put d v) w → Q (.panic c) a w) (hS : S w.drew)
    (h : Nonempty (Meets S) → wpQuiet P l.toArray (fun w' => ∃ x : Meets S, w' = x.val) (fun a' => wpSeqP P l.toArray Q S kp (pickN l rs) a' w.drew) (pick l fs) a) : (Code.region id l.toArray true).wp P Q a w := by
  simp only [Bool.and_eq_true, decide_eq_true_eq] at hB
  obtain ⟨h1, h2, h3, h4, h5⟩ := hB
  refine wp_region_front kp S hm ?_
  have hq := h ⟨⟨w.drew, hS⟩⟩
  have := wpAnyF_pick (P := P) (ops := l.toArray) (Q := Q) (md := .any) (S := S) (kp := kp) h1 hQ rs.length fs (Array.replicate l.toArray.size false) a w.drew h2 hS (by
    refine wpQuiet_mono (fun a' h' => ?_) _ _ hq
    refine wpAnyF_of_pick rs _ a' w.drew (fun i hi => ?_) h3 h'
    have := List.all_eq_true.1 h5 i hi
    simpa using this)
  rw [h4] at this
  simpa using this
end
end Go.Proofs.YtckgapeednokjaaGreat
namespace Go.Proofs.YtckgapeednokjaaGreat
open Go Go.RowKit

/-! ### A region that draws its order, in phases: reads that may come first, then what is forced, and again -/
section
variable {P : Program} {ops : Array Oper} {Q : Exit → Act → World → Prop} {md : Region.Mode} {S : World → Prop} {kp : Nat → Bool}

def seqKB (md : Region.Mode) (ops : Array Oper) : List Nat → Array Bool → Bool
  | [], _ => true
  | i :: is, listed => decide (Region.ready md ops listed = [i]) && seqKB md ops is (listed.setIfInBounds i true)

def wpSeqK (P : Program) (ops : Array Oper) (Q : Exit → Act → World → Prop) (S : World → Prop) (kp : Nat → Bool) (K : Act → World → Prop) : List (Nat × Oper) → Act → World → Prop
  | [], a, w => K a w
  | (i, o) :: rest, a, w => if Region.wanted o (yielded ops a.tmps) then o.wp P a w (fun a' w' => (kp i = true → S w') ∧ wpSeqK P ops Q S kp K rest a' w') Q ∨ (o.asks P a w ∧ LetsOut Q)
    else (kp i = true → S w) ∧ wpSeqK P ops Q S kp K rest (a.put o.dst undef) w

theorem wpAnyF_of_seqK {m : Nat} : ∀ (is : List Nat) (listed : Array Bool) (a : Act) (w : World), (∀ i ∈ is, i < ops.size) → seqKB md ops is listed = true →
    wpSeqK P ops Q S kp (fun a' w' => wpAnyF P md ops Q S kp m (listAll is listed) a' w') (pickN ops.toList is) a w → wpAnyF P md ops Q S kp (is.length + m) listed a w
  | [], listed, a, w, hlt, hB, h => by simpa [pickN, wpSeqK, listAll] using h
  | k :: is, listed, a, w, hlt, hB, h => by
    have hk := hlt k (by simp)
    have h0 : ops[k]? = some ops[k] := Array.getElem?_eq_getElem hk
    have hp : pickN ops.toList (k :: is) = (k, ops[k]) :: pickN ops.toList is := by
      unfold pickN
      rw [List.filterMap_cons]
      simp [h0]
    rw [hp] at h
    simp only [seqKB, Bool.and_eq_true, decide_eq_true_eq] at hB
    rw [show (k :: is).length + m = (is.length + m) + 1 from by simp only [List.length_cons]; omega]
    refine ⟨fun h1 => (by rw [hB.1] at h1; cases h1), fun j hj => ?_⟩
    rw [hB.1] at hj
    obtain rfl : j = k := by simpa using hj
    have hw : wpOp P ops Q j (fun a' w' => (kp j = true → S w') ∧ wpSeqK P ops Q S kp (fun a' w' => wpAnyF P md ops Q S kp m (listAll is (listed.setIfInBounds j true)) a' w') (pickN ops.toList is) a' w') a w := by
      unfold wpOp
      simp only [h0]
      unfold wpSeqK at h
      split
      · rename_i hw
        rw [if_pos hw] at h
        exact h
      · rename_i hw
        rw [if_neg hw] at h
        exact h
    exact wpOp_mono (fun a' w' h' => ⟨h'.1, wpAnyF_of_seqK is _ a' w' (fun i hi => hlt i (by simp [hi])) hB.2 h'.2⟩) hw

theorem wpSeqK_nil {K : Act → World → Prop} {a : Act} {w : World} (h : K a w) : wpSeqK P ops Q S kp K [] a w := h
theorem wpSeqK_step {K : Act → World → Prop} {i : Nat} {o : Oper} {rest : List (Nat × Oper)} {a : Act} {w : World}
    (h : ∀ K' : Act → World → Prop, Hid (∀ a w, (kp i = true → S w) → wpSeqK P ops Q S kp K rest a w → K' a w) → if Region.wanted o (yielded ops a.tmps) = true then Oper.wp P o a w K' Q else K' (a.put o.dst undef) w) :
    wpSeqK P ops Q S kp K ((i, o) :: rest) a w := by
  have := h (fun a' w' => (kp i = true → S w') ∧ wpSeqK P ops Q S kp K rest a' w') (fun a w h1 h2 => ⟨h1, h2⟩)
  unfold wpSeqK
  split
  · rename_i hw; rw [if_pos hw] at this; exact .inl this
  · rename_i hw; rw [if_neg hw] at this; exact this

/-- The phases. -/
def wpPh (P : Program) (ops : Array Oper) (Q : Exit → Act → World → Prop) (S : World → Prop) (kp : Nat → Bool) : List (List Nat × List Nat) → Act → World → Prop
  | [], a, w => Q .normal a w
  | (fs, rs) :: r, a, w => S w ∧ wpQuiet P ops (fun w' => ∃ x : Meets S, w' = x.val) (fun a' => wpSeqK P ops Q S kp (wpPh P ops Q S kp r) (pickN ops.toList rs) a' w) (pick ops.toList fs) a

def phB (md : Region.Mode) (ops : Array Oper) (kp : Nat → Bool) : List (List Nat × List Nat) → Array Bool → Bool
  | [], listed => (Region.ready md ops listed).isEmpty
  | (fs, rs) :: r, listed => frontPickB md ops kp fs listed && (seqKB md ops rs (listAll fs listed) && ((rs.all fun i => decide (i < ops.size)) && phB md ops kp r (listAll rs (listAll fs listed))))

def phLen : List (List Nat × List Nat) → Nat
  | [] => 0
  | (fs, rs) :: r => fs.length + (rs.length + phLen r)

theorem wpSeqK_mono {K K' : Act → World → Prop} (hK : ∀ a w, K a w → K' a w) : ∀ (l : List (Nat × Oper)) (a : Act) (w : World), wpSeqK P ops Q S kp K l a w → wpSeqK P ops Q S kp K' l a w
  | [], a, w, h => hK a w h
  | (i, o) :: l, a, w, h => by
    unfold wpSeqK at *
    split
    · rename_i hw
      rw [if_pos hw] at h
      rcases h with h | h
      · exact .inl (Oper.wp_mono (fun a' w' h' => ⟨h'.1, wpSeqK_mono hK l a' w' h'.2⟩) h)
      · exact .inr h
    · rename_i hw
      rw [if_neg hw] at h
      exact ⟨h.1, wpSeqK_mono hK l _ w h.2⟩

theorem wpAnyF_ph (hs : Region.noSelect ops = true) (hQ : ∀ c a d v w, Q (.panic c) (a.put d v) w → Q (.panic c) a w) : ∀ (l : List (List Nat × List Nat)) (listed : Array Bool) (a : Act) (w : World), phB md ops kp l listed = true →
    wpPh P ops Q S kp l a w → wpAnyF P md ops Q S kp (phLen l) listed a w
  | [], listed, a, w, hB, h => ⟨by simpa [phB] using hB, h⟩
  | (fs, rs) :: r, listed, a, w, hB, h => by
    simp only [phB, Bool.and_eq_true] at hB
    obtain ⟨h1, h2, h3, h4⟩ := hB
    obtain ⟨hS, hq⟩ := h
    refine wpAnyF_pick hs hQ (rs.length + phLen r) fs listed a w h1 hS (wpQuiet_mono (fun a' h' => ?_) _ _ hq)
    refine wpAnyF_of_seqK rs _ a' w (fun i hi => by have := List.all_eq_true.1 h3 i hi; simpa using this) h2 ?_
    exact wpSeqK_mono (fun a w h => wpAnyF_ph hs hQ r _ a w h4 h) _ _ _ h'

/-- **A region that draws its order, in phases.** -/
theorem wp_region_ph {id : Nat} {a : Act} {w : World} {l : List Oper} (ph : List (List Nat × List Nat)) (kp : Nat → Bool) (S : World → Prop) (hm : P.follows .mixedOrders = true)
    (hB : (Region.noSelect l.toArray && (phB .any l.toArray kp ph (Array.replicate l.toArray.size false) && decide (phLen ph = l.length))) = true)
    (hQ : ∀ c a d v w, Q (.panic c) (a.put d v) w → Q (.panic c) a w)
    (h : wpPh P l.toArray Q S kp ph a w.drew) : (Code.region id l.toArray true).wp P Q a w := by
  simp only [Bool.and_eq_true, decide_eq_true_eq] at hB
  obtain ⟨h1, h2, h3⟩ := hB
  refine wp_region_front kp S hm ?_
  have := wpAnyF_ph (P := P) (Q := Q) (S := S) h1 hQ ph (Array.replicate l.toArray.size false) a w.drew h2 h
  rw [h3] at this
  simpa using this

theorem wpPh_nil {a : Act} {w : World} (h : Q .normal a w) : wpPh P ops Q S kp [] a w := h
theorem wpPh_cons {fs rs : List Nat} {r : List (List Nat × List Nat)} {a : Act} {w : World} (hS : S w)
    (h : Nonempty (Meets S) → wpQuiet P ops (fun w' => ∃ x : Meets S, w' = x.val) (fun a' => wpSeqK P ops Q S kp (wpPh P ops Q S kp r) (pickN ops.toList rs) a' w) (pick ops.toList fs) a) : wpPh P ops Q S kp ((fs, rs) :: r) a w :=
  ⟨hS, h ⟨⟨w, hS⟩⟩⟩
end
end Go.Proofs.YtckgapeednokjaaGreat
namespace Go.Proofs.YtckgapeednokjaaGreat
open Go Go.Proofs Go.RowKit

theorem indexFunc_ints (fn : Fn) (fs cs : Array Value) (p : Int → Bool) (v : Value) (l : List Int) (w : World) (hv : NumsAt .i64 w v l)
    (hf : ∀ (k : Nat) (x : Int)  (w' : World), l[k]? = some x →  Below w.heap.size w w' → CallsVal Tryz.prog (.func fn fs cs) #[.int .i64 x] w' (Gives w' (.bool (p x)))) :
    Calls Tryz.prog 124 #[v, .func fn fs cs] w (Gives w (.int .i64 (ixOf p l))) := by
  obtain ⟨A, c, rfl, hc, hm, hT⟩ := hv
  unfold maxLen at hm
  have Hf := Lib.hid hf
  clear hf
  go_enter Tryz.func124, Tryz.ntmps124
  go_wp2
  go_loopw [5, 8] (fun i j wr => ∃ k : Nat, k ≤ l.length ∧ j = .int .i64 k ∧ Below w.heap.size w wr ∧ ∀ (j : Nat) (x : Int), j < k → l[j]? = some x → p x = false) (fun i j wr => l.length - (intOf j).toNat)
  case atStart => exact ⟨0, by omega, rfl, Below.refl _ _, by intro j x h; omega⟩
  case round =>
    obtain ⟨k, hk, rfl, hb, hall⟩ := hrel
    have Hall := Lib.hid hall
    clear hall
    by_cases hlt : k < l.length
    · obtain ⟨b, o, rfl, hT'⟩ := hT (by omega)
      obtain ⟨x, hx0⟩ : ∃ x, l[k]? = some x := ⟨_, List.getElem?_eq_getElem hlt⟩
      have hx := cell_below hb (hT' k hlt)
      rw [hx0] at hx
      simp only [Option.getD_some] at hx
      have Hc := Lib.hid (Hf.out k x wr hx0 hb)
      have Hx0 := Lib.hid hx0
      clear hx0 hT hT'
      go_wp2_with (refine wpList_callv (.tmp 11) [.tmp 15] #[3] rfl rfl (.func fn fs cs) rfl [.int .i64 x] rfl (.bool (p x)) Hc.out ?_; intro w2 hb2)
      · have hp : p x = true := by assumption
        go_ret
        exact gives_int (ixOf_hit Hall.out Hx0.out hp).symm (hb.trans (hb2.mono hb.size))
      · have hp : p x = false := by assumption
        go_roundw
        case rel =>
          refine ⟨k + 1, by omega, by go_num, hb.trans (hb2.mono hb.size), fun j y hj hy => ?_⟩
          by_cases e : j = k
          · subst e
            rw [Hx0.out] at hy
            cases hy
            exact hp
          · exact Hall.out j y (by omega) hy
        case measure => simp [intOf]; omega
    · go_wp2
      go_ret
      exact gives_int (ixOf_none fun j x hj hx => Hall.out j x (by omega) hx).symm hb

theorem containsFunc_ints (fn : Fn) (fs cs : Array Value) (p : Int → Bool) (v : Value) (l : List Int) (w : World) (hv : NumsAt .i64 w v l)
    (hf : ∀ (k : Nat) (x : Int)  (w' : World), l[k]? = some x →  Below w.heap.size w w' → CallsVal Tryz.prog (.func fn fs cs) #[.int .i64 x] w' (Gives w' (.bool (p x)))) :
    Calls Tryz.prog 76 #[v, .func fn fs cs] w (Gives w (.bool (l.any p))) := by
  have Hc := Lib.hid (indexFunc_ints fn fs cs p v l w hv hf)
  clear hf
  go_enter Tryz.func76, Tryz.ntmps76
  go_wp2_with (go_at_call 124; refine Hc.out.mono ?_; rintro e w' ⟨rfl, hb⟩)
  go_ret
  exact gives_bool (ixOf_any p l) hb

theorem all1_ints (B : Nat) (fn : Fn) (fs cs : Array Value) (b : Bool) (x : Int) (w : World) (hB : w.cell? ⟨B, 0, none⟩ = some (.func fn fs cs))
    (hf : ∀ (w' : World), Below w.heap.size w w' → CallsVal Tryz.prog (.func fn fs cs) #[.int .i64 x] w' (Gives w' (.bool b))) :
    CallsVal Tryz.prog (.func (.func 197) #[] #[.pointer (some ⟨B, 0, none⟩)]) #[.int .i64 x] w (Gives w (.bool (!b))) := by
  refine ⟨197, #[.int .i64 x, .pointer (some ⟨B, 0, none⟩)], by kernel_rfl, ?_⟩
  have hlt := World.block_lt_of_cell? _ _ hB
  have Hf := Lib.hid hf
  clear hf
  go_enter Tryz.func197, Tryz.ntmps197
  go_wp2_with (refine wpList_callv (.tmp 4) [.tmp 5] #[3] rfl rfl (.func fn fs cs) rfl [.int .i64 x] rfl (.bool b) (Hf.out _ (Below.refl _ _)) ?_; intro w2 hb2)
  go_ret
  exact ⟨rfl, hb2⟩

theorem all_ints (fn : Fn) (fs cs : Array Value) (p : Int → Bool) (v : Value) (l : List Int) (w : World) (hv : NumsAt .i64 w v l)
    (hf : ∀ (k : Nat) (x : Int)  (w' : World), l[k]? = some x →  Below w.heap.size w w' → CallsVal Tryz.prog (.func fn fs cs) #[.int .i64 x] w' (Gives w' (.bool (p x)))) :
    Calls Tryz.prog 143 #[v, .func fn fs cs] w (Gives w (.bool (l.all p))) := by
  have hb0 : Below w.heap.size w (w.alloc (.cells #[.func fn fs cs] 103)) := (Below.refl _ _).alloc (Nat.le_refl _) _
  have Hc := Lib.hid (containsFunc_ints (.func 197) #[] #[.pointer (some ⟨w.heap.size, 0, none⟩)] (fun x => !p x) v l (w.alloc (.cells #[.func fn fs cs] 103)) (hv.below hb0)
    (fun k x  w' hx  hb => all1_ints w.heap.size fn fs cs (p x) x w' (cell_below hb (by simp)) (fun w2 hb2 => hf k x  w2 hx  (hb0.trans ((hb.mono hb0.size).trans (hb2.mono (Nat.le_trans hb0.size hb.size)))))))
  clear hf
  go_enter Tryz.func143, Tryz.ntmps143
  go_wp2_with (go_at_call 76; refine Hc.out.mono ?_; rintro e w' ⟨rfl, hb⟩)
  go_ret
  exact gives_bool (any_not p l) (hb0.trans (hb.mono hb0.size))
end Go.Proofs.YtckgapeednokjaaGreat
namespace Go.Proofs.YtckgapeednokjaaGreat
open Go Go.Proofs Go.RowKit

/-! ### rows -/
theorem within_same (n lo hi : Int) (w : World) : Calls Tryz.prog 103 #[.int .i64 n, .int .i64 lo, .int .i64 hi] w (Same w (.bool (inB n lo hi))) := by
  by_cases h1 : lo ≤ n
  · by_cases h2 : n ≤ hi
    · have e : inB n lo hi = true := by simp [inB, h1, h2]
      rw [e]; clear e
      go_enter Tryz.func103, Tryz.ntmps103
      go_wp2
      go_ret
      exact ⟨rfl, rfl⟩
    · have e : inB n lo hi = false := by simp [inB, h2]
      rw [e]; clear e
      go_enter Tryz.func103, Tryz.ntmps103
      go_wp2
      go_ret
      exact ⟨rfl, rfl⟩
  · have e : inB n lo hi = false := by simp [inB, h1]
    rw [e]; clear e
    go_enter Tryz.func103, Tryz.ntmps103
    go_wp2
    go_ret
    exact ⟨rfl, rfl⟩

theorem In_same (n lo hi : Int) (w : World) : Calls Tryz.prog 53 #[.int .i64 n, .int .i64 lo, .int .i64 hi] w (Same w (.bool (inB n lo hi))) := by
  by_cases h1 : lo ≤ n
  · by_cases h2 : n ≤ hi
    · have e : inB n lo hi = true := by simp [inB, h1, h2]
      rw [e]; clear e
      go_enter Tryz.func53, Tryz.ntmps53
      go_wp2
      go_ret
      exact ⟨rfl, rfl⟩
    · have e : inB n lo hi = false := by simp [inB, h2]
      rw [e]; clear e
      go_enter Tryz.func53, Tryz.ntmps53
      go_wp2
      go_ret
      exact ⟨rfl, rfl⟩
  · have e : inB n lo hi = false := by simp [inB, h1]
    rw [e]; clear e
    go_enter Tryz.func53, Tryz.ntmps53
    go_wp2
    go_ret
    exact ⟨rfl, rfl⟩

theorem within_any (n lo hi : Int) (w : World) : Calls Tryz.prog 103 #[.int .i64 n, .int .i64 lo, .int .i64 hi] w (Gives w (.bool (inB n lo hi))) := Same.gives (within_same n lo hi w)
theorem In_any (n lo hi : Int) (w : World) : Calls Tryz.prog 53 #[.int .i64 n, .int .i64 lo, .int .i64 hi] w (Gives w (.bool (inB n lo hi))) := Same.gives (In_same n lo hi w)
theorem Later.out {w w' : World} (h : ∃ x : Later w, w' = x.val) : Below w.heap.size w w' := by
  obtain ⟨x, rfl⟩ := h
  exact x.property

theorem inB_iff {n lo hi : Int} : inB n lo hi = true ↔ lo ≤ n ∧ n ≤ hi := by simp [inB]

theorem NumsAt.at_ {K : IntKind} {w : World} {A : Option Addr} {n c : Nat} {l : List Int} (h : NumsAt K w (.slice A n c) l) {k : Nat} (hk : k < l.length) :
    ∃ b o x, A = some ⟨b, o, none⟩ ∧ l[k]? = some x ∧ w.cell? ⟨b, o + k, none⟩ = some (.int K x) ∧ b < w.heap.size := by
  obtain ⟨A', c', e, _, _, hT⟩ := h
  cases e
  obtain ⟨b, o, e, hc⟩ := hT (by omega)
  have h1 := hc k hk
  rw [List.getElem?_eq_getElem hk, Option.getD_some] at h1
  exact ⟨b, o, _, e, List.getElem?_eq_getElem hk, h1, World.block_lt_of_cell? _ _ h1⟩

theorem RowsAt.at_ {w : World} {A : Option Addr} {n c : Nat} {ll : List (List Int)} (h : RowsAt w (.slice A n c) ll) {k : Nat} (hk : k < ll.length) :
    ∃ b o l u, A = some ⟨b, o, none⟩ ∧ ll[k]? = some l ∧ w.cell? ⟨b, o + k, none⟩ = some u ∧ NumsAt .i64 w u l ∧ b < w.heap.size := by
  obtain ⟨A', c', e, _, _, hT⟩ := h
  cases e
  obtain ⟨b, o, e, hc⟩ := hT (by omega)
  obtain ⟨u, h1, h2⟩ := hc k hk
  rw [List.getElem?_eq_getElem hk, Option.getD_some] at h2
  exact ⟨b, o, _, u, e, List.getElem?_eq_getElem hk, h1, h2, World.block_lt_of_cell? _ _ h1⟩

theorem NumsAt.form {K : IntKind} {w : World} {v : Value} {l : List Int} (h : NumsAt K w v l) : ∃ A c, v = .slice A l.length c ∧ l.length ≤ c ∧ c ≤ 9223372036854775807 := by
  obtain ⟨A, c, e, h1, h2, _⟩ := h
  exact ⟨A, c, e, h1, by simpa [maxLen] using h2⟩
theorem RowsAt.form {w : World} {v : Value} {l : List (List Int)} (h : RowsAt w v l) : ∃ A c, v = .slice A l.length c ∧ l.length ≤ c ∧ c ≤ 9223372036854775807 := by
  obtain ⟨A, c, e, h1, h2, _⟩ := h
  exact ⟨A, c, e, h1, by simpa [maxLen] using h2⟩

end Go.Proofs.YtckgapeednokjaaGreat
namespace Go.Proofs.YtckgapeednokjaaGreat
open Go Go.Proofs Go.RowKit

theorem minutes_same (n : Int) (w : World) : Calls Tryz.prog 144 #[.int .i64 n] w (Same w (.bool (inB n 0 3000))) := by
  go_enter Tryz.func144, Tryz.ntmps144
  go_wp2_with (go_at_call 103; refine (within_same _ _ _ _).mono ?_; rintro e w1 ⟨rfl, rfl⟩)
  go_ret
  exact ⟨rfl, rfl⟩
theorem minutes_val (w : World) (x : Int) : CallsVal Tryz.prog (.func (.func 144) #[] #[]) #[.int .i64 x] w (Gives w (.bool (inB x 0 3000))) :=
  ⟨144, #[.int .i64 x], by kernel_rfl, Same.gives (minutes_same x w)⟩
theorem allM_any (v : Value) (l : List Int) (w : World) (hv : NumsAt .i64 w v l) : Calls Tryz.prog 143 #[v, .func (.func 144) #[] #[]] w (Gives w (.bool (l.all fun x => inB x 0 3000))) :=
  all_ints _ _ _ _ v l w hv fun k x w' _ _ => minutes_val w' x
end Go.Proofs.YtckgapeednokjaaGreat
namespace Go.Proofs.YtckgapeednokjaaGreat
open Go Go.Proofs Go.RowKit

/-- A slice of reliefs. -/
def RelsAt (w : World) (v : Value) (l : List Rel) : Prop :=
  ∃ A c, v = .slice A l.length c ∧ l.length ≤ c ∧ c ≤ maxLen ∧
    (0 < l.length → ∃ b o, A = some ⟨b, o, none⟩ ∧ ∀ k r, l[k]? = some r → w.cell? ⟨b, o + k * 3, none⟩ = some (.int .i64 r.place) ∧ w.cell? ⟨b, o + k * 3 + 1, none⟩ = some (.int .i64 r.lo) ∧ w.cell? ⟨b, o + k * 3 + 2, none⟩ = some (.int .i64 r.hi))
/-- A slice of blocks. -/
def BlocksAt (w : World) (v : Value) (l : List (List Rel)) : Prop :=
  ∃ A c, v = .slice A l.length c ∧ l.length ≤ c ∧ c ≤ maxLen ∧
    (0 < l.length → ∃ b o, A = some ⟨b, o, none⟩ ∧ ∀ k r, l[k]? = some r → ∃ u, w.cell? ⟨b, o + k, none⟩ = some u ∧ RelsAt w u r)
/-- A slice of functions. -/
def FnsAt (w : World) (v : Value) (l : List Nat) : Prop :=
  ∃ A c, v = .slice A l.length c ∧ l.length ≤ c ∧ c ≤ maxLen ∧
    (0 < l.length → ∃ b o, A = some ⟨b, o, none⟩ ∧ ∀ k r, l[k]? = some r → w.cell? ⟨b, o + k, none⟩ = some (.func (.func r) #[] #[]))
section
variable {w w' : World} {v : Value}
theorem RelsAt.below {l : List Rel} (h : RelsAt w v l) (hb : Below w.heap.size w w') : RelsAt w' v l := by
  obtain ⟨A, c, rfl, h1, h2, h3⟩ := h
  refine ⟨A, c, rfl, h1, h2, fun hp => ?_⟩
  obtain ⟨b, o, e, hc⟩ := h3 hp
  refine ⟨b, o, e, fun k r hr => ?_⟩
  obtain ⟨c0, c1, c2⟩ := hc k r hr
  exact ⟨cell_below hb c0, cell_below hb c1, cell_below hb c2⟩
theorem BlocksAt.below {l : List (List Rel)} (h : BlocksAt w v l) (hb : Below w.heap.size w w') : BlocksAt w' v l := by
  obtain ⟨A, c, rfl, h1, h2, h3⟩ := h
  refine ⟨A, c, rfl, h1, h2, fun hp => ?_⟩
  obtain ⟨b, o, e, hc⟩ := h3 hp
  refine ⟨b, o, e, fun k r hr => ?_⟩
  obtain ⟨u, c0, hn⟩ := hc k r hr
  exact ⟨u, cell_below hb c0, hn.below hb⟩
theorem FnsAt.below {l : List Nat} (h : FnsAt w v l) (hb : Below w.heap.size w w') : FnsAt w' v l := by
  obtain ⟨A, c, rfl, h1, h2, h3⟩ := h
  refine ⟨A, c, rfl, h1, h2, fun hp => ?_⟩
  obtain ⟨b, o, e, hc⟩ := h3 hp
  exact ⟨b, o, e, fun k r hr => cell_below hb (hc k r hr)⟩
theorem RelsAt.form {l : List Rel} (h : RelsAt w v l) : ∃ A c, v = .slice A l.length c ∧ l.length ≤ c ∧ c ≤ 9223372036854775807 := by
  obtain ⟨A, c, e, h1, h2, _⟩ := h
  exact ⟨A, c, e, h1, by simpa [maxLen] using h2⟩
theorem BlocksAt.form {l : List (List Rel)} (h : BlocksAt w v l) : ∃ A c, v = .slice A l.length c ∧ l.length ≤ c ∧ c ≤ 9223372036854775807 := by
  obtain ⟨A, c, e, h1, h2, _⟩ := h
  exact ⟨A, c, e, h1, by simpa [maxLen] using h2⟩
theorem RelsAt.at_ {A : Option Addr} {n c : Nat} {l : List Rel} (h : RelsAt w (.slice A n c) l) {k : Nat} (hk : k < l.length) :
    ∃ b o r, A = some ⟨b, o, none⟩ ∧ l[k]? = some r ∧ w.cell? ⟨b, o + k * 3, none⟩ = some (.int .i64 r.place) ∧ w.cell? ⟨b, o + k * 3 + 1, none⟩ = some (.int .i64 r.lo) ∧ w.cell? ⟨b, o + k * 3 + 2, none⟩ = some (.int .i64 r.hi) ∧ b < w.heap.size := by
  obtain ⟨A', c', e, _, _, hT⟩ := h
  cases e
  obtain ⟨b, o, e, hc⟩ := hT (by omega)
  obtain ⟨h0, h1, h2⟩ := hc k l[k] (List.getElem?_eq_getElem hk)
  exact ⟨b, o, _, e, List.getElem?_eq_getElem hk, h0, h1, h2, World.block_lt_of_cell? _ _ h1⟩
theorem BlocksAt.at_ {A : Option Addr} {n c : Nat} {l : List (List Rel)} (h : BlocksAt w (.slice A n c) l) {k : Nat} (hk : k < l.length) :
    ∃ b o r u, A = some ⟨b, o, none⟩ ∧ l[k]? = some r ∧ w.cell? ⟨b, o + k, none⟩ = some u ∧ RelsAt w u r ∧ b < w.heap.size := by
  obtain ⟨A', c', e, _, _, hT⟩ := h
  cases e
  obtain ⟨b, o, e, hc⟩ := hT (by omega)
  obtain ⟨u, h0, h1⟩ := hc k l[k] (List.getElem?_eq_getElem hk)
  exact ⟨b, o, _, u, e, List.getElem?_eq_getElem hk, h0, h1, World.block_lt_of_cell? _ _ h0⟩
end

/-! ### all of rels -/
theorem indexFunc_rels (fn : Fn) (fs cs : Array Value) (p : Rel → Bool) (v : Value) (l : List Rel) (w : World) (hv : RelsAt w v l)
    (hf : ∀ (k : Nat) (x : Rel)  (w' : World), l[k]? = some x →  Below w.heap.size w w' → CallsVal Tryz.prog (.func fn fs cs) #[.agg #[.int .i64 x.place, .int .i64 x.lo, .int .i64 x.hi]] w' (Gives w' (.bool (p x)))) :
    Calls Tryz.prog 223 #[v, .func fn fs cs] w (Gives w (.int .i64 (ixOf p l))) := by
  obtain ⟨A, c, rfl, hc, hm, hT⟩ := hv
  unfold maxLen at hm
  have Hf := Lib.hid hf
  clear hf
  go_enter Tryz.func223, Tryz.ntmps223
  go_wp2
  go_loopw [5, 8] (fun i j wr => ∃ k : Nat, k ≤ l.length ∧ j = .int .i64 k ∧ Below w.heap.size w wr ∧ ∀ (j : Nat) (x : Rel), j < k → l[j]? = some x → p x = false) (fun i j wr => l.length - (intOf j).toNat)
  case atStart => exact ⟨0, by omega, rfl, Below.refl _ _, by intro j x h; omega⟩
  case round =>
    obtain ⟨k, hk, rfl, hb, hall⟩ := hrel
    have Hall := Lib.hid hall
    clear hall
    by_cases hlt : k < l.length
    · obtain ⟨b, o, rfl, hT'⟩ := hT (by omega)
      obtain ⟨x, hx0⟩ : ∃ x, l[k]? = some x := ⟨_, List.getElem?_eq_getElem hlt⟩
      obtain ⟨c0, c1, c2⟩ := hT' k x hx0
      replace c0 := cell_below hb c0
      replace c1 := cell_below hb c1
      replace c2 := cell_below hb c2
      have Hc := Lib.hid (Hf.out k x  wr hx0  hb)
      have Hx0 := Lib.hid hx0
      clear hx0 hT hT'
      go_wp2_with (refine wpList_callv (.tmp 11) [.tmp 15] #[118] rfl rfl (.func fn fs cs) rfl [.agg #[.int .i64 x.place, .int .i64 x.lo, .int .i64 x.hi]] rfl (.bool (p x)) Hc.out ?_; intro w2 hb2)
      · have hp : p x = true := by assumption
        go_ret
        exact gives_int (ixOf_hit Hall.out Hx0.out hp).symm (hb.trans (hb2.mono hb.size))
      · have hp : p x = false := by assumption
        go_roundw
        case rel =>
          refine ⟨k + 1, by omega, by go_num, hb.trans (hb2.mono hb.size), fun j y hj hy => ?_⟩
          by_cases e : j = k
          · subst e
            rw [Hx0.out] at hy
            cases hy
            exact hp
          · exact Hall.out j y (by omega) hy
        case measure => simp [intOf]; omega
    · go_wp2
      go_ret
      exact gives_int (ixOf_none fun j x hj hx => Hall.out j x (by omega) hx).symm hb

theorem containsFunc_rels (fn : Fn) (fs cs : Array Value) (p : Rel → Bool) (v : Value) (l : List Rel) (w : World) (hv : RelsAt w v l)
    (hf : ∀ (k : Nat) (x : Rel)  (w' : World), l[k]? = some x →  Below w.heap.size w w' → CallsVal Tryz.prog (.func fn fs cs) #[.agg #[.int .i64 x.place, .int .i64 x.lo, .int .i64 x.hi]] w' (Gives w' (.bool (p x)))) :
    Calls Tryz.prog 199 #[v, .func fn fs cs] w (Gives w (.bool (l.any p))) := by
  have Hc := Lib.hid (indexFunc_rels fn fs cs p v l w hv hf)
  clear hf
  go_enter Tryz.func199, Tryz.ntmps199
  go_wp2_with (go_at_call 223; refine Hc.out.mono ?_; rintro e w' ⟨rfl, hb⟩)
  go_ret
  exact gives_bool (ixOf_any p l) hb

theorem all1_rels (B : Nat) (fn : Fn) (fs cs : Array Value) (b : Bool) (x : Rel) (w : World) (hB : w.cell? ⟨B, 0, none⟩ = some (.func fn fs cs))
    (hf : ∀ (w' : World), Below w.heap.size w w' → CallsVal Tryz.prog (.func fn fs cs) #[.agg #[.int .i64 x.place, .int .i64 x.lo, .int .i64 x.hi]] w' (Gives w' (.bool b))) :
    CallsVal Tryz.prog (.func (.func 200) #[] #[.pointer (some ⟨B, 0, none⟩)]) #[.agg #[.int .i64 x.place, .int .i64 x.lo, .int .i64 x.hi]] w (Gives w (.bool (!b))) := by
  refine ⟨200, #[.agg #[.int .i64 x.place, .int .i64 x.lo, .int .i64 x.hi], .pointer (some ⟨B, 0, none⟩)], by kernel_rfl, ?_⟩
  have hlt := World.block_lt_of_cell? _ _ hB
  have Hf := Lib.hid hf
  clear hf
  go_enter Tryz.func200, Tryz.ntmps200
  go_wp2_with (refine wpList_callv (.tmp 4) [.tmp 5] #[118] rfl rfl (.func fn fs cs) rfl [.agg #[.int .i64 x.place, .int .i64 x.lo, .int .i64 x.hi]] rfl (.bool b) (Hf.out _ ((Below.refl _ _).alloc (Nat.le_refl _) _)) ?_; intro w2 hb2)
  go_ret
  exact ⟨rfl, ((Below.refl _ _).alloc (Nat.le_refl _) _).trans (hb2.mono (by simp))⟩

theorem all_rels (fn : Fn) (fs cs : Array Value) (p : Rel → Bool) (v : Value) (l : List Rel) (w : World) (hv : RelsAt w v l)
    (hf : ∀ (k : Nat) (x : Rel)  (w' : World), l[k]? = some x →  Below w.heap.size w w' → CallsVal Tryz.prog (.func fn fs cs) #[.agg #[.int .i64 x.place, .int .i64 x.lo, .int .i64 x.hi]] w' (Gives w' (.bool (p x)))) :
    Calls Tryz.prog 147 #[v, .func fn fs cs] w (Gives w (.bool (l.all p))) := by
  have hb0 : Below w.heap.size w (w.alloc (.cells #[.func fn fs cs] 249)) := (Below.refl _ _).alloc (Nat.le_refl _) _
  have Hc := Lib.hid (containsFunc_rels (.func 200) #[] #[.pointer (some ⟨w.heap.size, 0, none⟩)] (fun x => !p x) v l (w.alloc (.cells #[.func fn fs cs] 249)) (hv.below hb0)
    (fun k x  w' hx  hb => all1_rels w.heap.size fn fs cs (p x) x w' (cell_below hb (by simp)) (fun w2 hb2 => hf k x  w2 hx  (hb0.trans ((hb.mono hb0.size).trans (hb2.mono (Nat.le_trans hb0.size hb.size)))))))
  clear hf
  go_enter Tryz.func147, Tryz.ntmps147
  go_wp2_with (go_at_call 199; refine Hc.out.mono ?_; rintro e w' ⟨rfl, hb⟩)
  go_ret
  exact gives_bool (any_not p l) (hb0.trans (hb.mono hb0.size))

/-! ### all of blocks -/
theorem indexFunc_blocks (fn : Fn) (fs cs : Array Value) (p : (List Rel) → Bool) (v : Value) (l : List (List Rel)) (w : World) (hv : BlocksAt w v l)
    (hf : ∀ (k : Nat) (x : (List Rel)) (u : Value) (w' : World), l[k]? = some x → RelsAt w' u x → Below w.heap.size w w' → CallsVal Tryz.prog (.func fn fs cs) #[u] w' (Gives w' (.bool (p x)))) :
    Calls Tryz.prog 198 #[v, .func fn fs cs] w (Gives w (.int .i64 (ixOf p l))) := by
  obtain ⟨A, c, rfl, hc, hm, hT⟩ := hv
  unfold maxLen at hm
  have Hf := Lib.hid hf
  clear hf
  go_enter Tryz.func198, Tryz.ntmps198
  go_wp2
  go_loopw [5, 8] (fun i j wr => ∃ k : Nat, k ≤ l.length ∧ j = .int .i64 k ∧ Below w.heap.size w wr ∧ ∀ (j : Nat) (x : (List Rel)), j < k → l[j]? = some x → p x = false) (fun i j wr => l.length - (intOf j).toNat)
  case atStart => exact ⟨0, by omega, rfl, Below.refl _ _, by intro j x h; omega⟩
  case round =>
    obtain ⟨k, hk, rfl, hb, hall⟩ := hrel
    have Hall := Lib.hid hall
    clear hall
    by_cases hlt : k < l.length
    · obtain ⟨b, o, rfl, hT'⟩ := hT (by omega)
      obtain ⟨x, hx0⟩ : ∃ x, l[k]? = some x := ⟨_, List.getElem?_eq_getElem hlt⟩
      obtain ⟨u, c0, hn⟩ := hT' k x hx0
      replace c0 := cell_below hb c0
      replace hn := hn.below hb
      have Hc := Lib.hid (Hf.out k x u wr hx0 hn hb)
      have Hx0 := Lib.hid hx0
      clear hx0 hT hT'
      go_wp2_with (refine wpList_callv (.tmp 11) [.tmp 15] #[119] rfl rfl (.func fn fs cs) rfl [u] rfl (.bool (p x)) Hc.out ?_; intro w2 hb2)
      · have hp : p x = true := by assumption
        go_ret
        exact gives_int (ixOf_hit Hall.out Hx0.out hp).symm (hb.trans (hb2.mono hb.size))
      · have hp : p x = false := by assumption
        go_roundw
        case rel =>
          refine ⟨k + 1, by omega, by go_num, hb.trans (hb2.mono hb.size), fun j y hj hy => ?_⟩
          by_cases e : j = k
          · subst e
            rw [Hx0.out] at hy
            cases hy
            exact hp
          · exact Hall.out j y (by omega) hy
        case measure => simp [intOf]; omega
    · go_wp2
      go_ret
      exact gives_int (ixOf_none fun j x hj hx => Hall.out j x (by omega) hx).symm hb

theorem containsFunc_blocks (fn : Fn) (fs cs : Array Value) (p : (List Rel) → Bool) (v : Value) (l : List (List Rel)) (w : World) (hv : BlocksAt w v l)
    (hf : ∀ (k : Nat) (x : (List Rel)) (u : Value) (w' : World), l[k]? = some x → RelsAt w' u x → Below w.heap.size w w' → CallsVal Tryz.prog (.func fn fs cs) #[u] w' (Gives w' (.bool (p x)))) :
    Calls Tryz.prog 145 #[v, .func fn fs cs] w (Gives w (.bool (l.any p))) := by
  have Hc := Lib.hid (indexFunc_blocks fn fs cs p v l w hv hf)
  clear hf
  go_enter Tryz.func145, Tryz.ntmps145
  go_wp2_with (go_at_call 198; refine Hc.out.mono ?_; rintro e w' ⟨rfl, hb⟩)
  go_ret
  exact gives_bool (ixOf_any p l) hb

theorem all1_blocks (B : Nat) (fn : Fn) (fs cs : Array Value) (b : Bool) (u : Value) (w : World) (hB : w.cell? ⟨B, 0, none⟩ = some (.func fn fs cs))
    (hf : ∀ (w' : World), Below w.heap.size w w' → CallsVal Tryz.prog (.func fn fs cs) #[u] w' (Gives w' (.bool b))) :
    CallsVal Tryz.prog (.func (.func 146) #[] #[.pointer (some ⟨B, 0, none⟩)]) #[u] w (Gives w (.bool (!b))) := by
  refine ⟨146, #[u, .pointer (some ⟨B, 0, none⟩)], by kernel_rfl, ?_⟩
  have hlt := World.block_lt_of_cell? _ _ hB
  have Hf := Lib.hid hf
  clear hf
  go_enter Tryz.func146, Tryz.ntmps146
  go_wp2_with (refine wpList_callv (.tmp 4) [.tmp 5] #[119] rfl rfl (.func fn fs cs) rfl [u] rfl (.bool b) (Hf.out _ (Below.refl _ _)) ?_; intro w2 hb2)
  go_ret
  exact ⟨rfl, hb2⟩

theorem all_blocks (fn : Fn) (fs cs : Array Value) (p : (List Rel) → Bool) (v : Value) (l : List (List Rel)) (w : World) (hv : BlocksAt w v l)
    (hf : ∀ (k : Nat) (x : (List Rel)) (u : Value) (w' : World), l[k]? = some x → RelsAt w' u x → Below w.heap.size w w' → CallsVal Tryz.prog (.func fn fs cs) #[u] w' (Gives w' (.bool (p x)))) :
    Calls Tryz.prog 95 #[v, .func fn fs cs] w (Gives w (.bool (l.all p))) := by
  have hb0 : Below w.heap.size w (w.alloc (.cells #[.func fn fs cs] 192)) := (Below.refl _ _).alloc (Nat.le_refl _) _
  have Hc := Lib.hid (containsFunc_blocks (.func 146) #[] #[.pointer (some ⟨w.heap.size, 0, none⟩)] (fun x => !p x) v l (w.alloc (.cells #[.func fn fs cs] 192)) (hv.below hb0)
    (fun k x u w' hx hn hb => all1_blocks w.heap.size fn fs cs (p x) u w' (cell_below hb (by simp)) (fun w2 hb2 => hf k x u w2 hx (hn.below hb2) (hb0.trans ((hb.mono hb0.size).trans (hb2.mono (Nat.le_trans hb0.size hb.size)))))))
  clear hf
  go_enter Tryz.func95, Tryz.ntmps95
  go_wp2_with (go_at_call 145; refine Hc.out.mono ?_; rintro e w' ⟨rfl, hb⟩)
  go_ret
  exact gives_bool (any_not p l) (hb0.trans (hb.mono hb0.size))

/-! ### all of qs -/
theorem indexFunc_qs (fn : Fn) (fs cs : Array Value) (p : Nat → Bool) (v : Value) (l : List Nat) (w : World) (hv : FnsAt w v l)
    (hf : ∀ (k : Nat) (x : Nat)  (w' : World), l[k]? = some x →  Below w.heap.size w w' → CallsVal Tryz.prog (.func fn fs cs) #[.agg #[.func (.func x) #[] #[]]] w' (Gives w' (.bool (p x)))) :
    Calls Tryz.prog 204 #[v, .func fn fs cs] w (Gives w (.int .i64 (ixOf p l))) := by
  obtain ⟨A, c, rfl, hc, hm, hT⟩ := hv
  unfold maxLen at hm
  have Hf := Lib.hid hf
  clear hf
  go_enter Tryz.func204, Tryz.ntmps204
  go_wp2
  go_loopw [5, 8] (fun i j wr => ∃ k : Nat, k ≤ l.length ∧ j = .int .i64 k ∧ Below w.heap.size w wr ∧ ∀ (j : Nat) (x : Nat), j < k → l[j]? = some x → p x = false) (fun i j wr => l.length - (intOf j).toNat)
  case atStart => exact ⟨0, by omega, rfl, Below.refl _ _, by intro j x h; omega⟩
  case round =>
    obtain ⟨k, hk, rfl, hb, hall⟩ := hrel
    have Hall := Lib.hid hall
    clear hall
    by_cases hlt : k < l.length
    · obtain ⟨b, o, rfl, hT'⟩ := hT (by omega)
      obtain ⟨x, hx0⟩ : ∃ x, l[k]? = some x := ⟨_, List.getElem?_eq_getElem hlt⟩
      obtain c0 := hT' k x hx0
      replace c0 := cell_below hb c0
      have Hc := Lib.hid (Hf.out k x  wr hx0  hb)
      have Hx0 := Lib.hid hx0
      clear hx0 hT hT'
      go_wp2_with (refine wpList_callv (.tmp 11) [.tmp 15] #[209] rfl rfl (.func fn fs cs) rfl [.agg #[.func (.func x) #[] #[]]] rfl (.bool (p x)) Hc.out ?_; intro w2 hb2)
      · have hp : p x = true := by assumption
        go_ret
        exact gives_int (ixOf_hit Hall.out Hx0.out hp).symm (hb.trans (hb2.mono hb.size))
      · have hp : p x = false := by assumption
        go_roundw
        case rel =>
          refine ⟨k + 1, by omega, by go_num, hb.trans (hb2.mono hb.size), fun j y hj hy => ?_⟩
          by_cases e : j = k
          · subst e
            rw [Hx0.out] at hy
            cases hy
            exact hp
          · exact Hall.out j y (by omega) hy
        case measure => simp [intOf]; omega
    · go_wp2
      go_ret
      exact gives_int (ixOf_none fun j x hj hx => Hall.out j x (by omega) hx).symm hb

theorem containsFunc_qs (fn : Fn) (fs cs : Array Value) (p : Nat → Bool) (v : Value) (l : List Nat) (w : World) (hv : FnsAt w v l)
    (hf : ∀ (k : Nat) (x : Nat)  (w' : World), l[k]? = some x →  Below w.heap.size w w' → CallsVal Tryz.prog (.func fn fs cs) #[.agg #[.func (.func x) #[] #[]]] w' (Gives w' (.bool (p x)))) :
    Calls Tryz.prog 155 #[v, .func fn fs cs] w (Gives w (.bool (l.any p))) := by
  have Hc := Lib.hid (indexFunc_qs fn fs cs p v l w hv hf)
  clear hf
  go_enter Tryz.func155, Tryz.ntmps155
  go_wp2_with (go_at_call 204; refine Hc.out.mono ?_; rintro e w' ⟨rfl, hb⟩)
  go_ret
  exact gives_bool (ixOf_any p l) hb

theorem all1_qs (B : Nat) (fn : Fn) (fs cs : Array Value) (b : Bool) (x : Nat) (w : World) (hB : w.cell? ⟨B, 0, none⟩ = some (.func fn fs cs))
    (hf : ∀ (w' : World), Below w.heap.size w w' → CallsVal Tryz.prog (.func fn fs cs) #[.agg #[.func (.func x) #[] #[]]] w' (Gives w' (.bool b))) :
    CallsVal Tryz.prog (.func (.func 156) #[] #[.pointer (some ⟨B, 0, none⟩)]) #[.agg #[.func (.func x) #[] #[]]] w (Gives w (.bool (!b))) := by
  refine ⟨156, #[.agg #[.func (.func x) #[] #[]], .pointer (some ⟨B, 0, none⟩)], by kernel_rfl, ?_⟩
  have hlt := World.block_lt_of_cell? _ _ hB
  have Hf := Lib.hid hf
  clear hf
  go_enter Tryz.func156, Tryz.ntmps156
  go_wp2_with (refine wpList_callv (.tmp 4) [.tmp 5] #[209] rfl rfl (.func fn fs cs) rfl [.agg #[.func (.func x) #[] #[]]] rfl (.bool b) (Hf.out _ ((Below.refl _ _).alloc (Nat.le_refl _) _)) ?_; intro w2 hb2)
  go_ret
  exact ⟨rfl, ((Below.refl _ _).alloc (Nat.le_refl _) _).trans (hb2.mono (by simp))⟩

theorem all_qs (fn : Fn) (fs cs : Array Value) (p : Nat → Bool) (v : Value) (l : List Nat) (w : World) (hv : FnsAt w v l)
    (hf : ∀ (k : Nat) (x : Nat)  (w' : World), l[k]? = some x →  Below w.heap.size w w' → CallsVal Tryz.prog (.func fn fs cs) #[.agg #[.func (.func x) #[] #[]]] w' (Gives w' (.bool (p x)))) :
    Calls Tryz.prog 106 #[v, .func fn fs cs] w (Gives w (.bool (l.all p))) := by
  have hb0 : Below w.heap.size w (w.alloc (.cells #[.func fn fs cs] 212)) := (Below.refl _ _).alloc (Nat.le_refl _) _
  have Hc := Lib.hid (containsFunc_qs (.func 156) #[] #[.pointer (some ⟨w.heap.size, 0, none⟩)] (fun x => !p x) v l (w.alloc (.cells #[.func fn fs cs] 212)) (hv.below hb0)
    (fun k x  w' hx  hb => all1_qs w.heap.size fn fs cs (p x) x w' (cell_below hb (by simp)) (fun w2 hb2 => hf k x  w2 hx  (hb0.trans ((hb.mono hb0.size).trans (hb2.mono (Nat.le_trans hb0.size hb.size)))))))
  clear hf
  go_enter Tryz.func106, Tryz.ntmps106
  go_wp2_with (go_at_call 155; refine Hc.out.mono ?_; rintro e w' ⟨rfl, hb⟩)
  go_ret
  exact gives_bool (any_not p l) (hb0.trans (hb.mono hb0.size))
end Go.Proofs.YtckgapeednokjaaGreat
namespace Go.Proofs.YtckgapeednokjaaGreat
open Go Go.Proofs Go.RowKit

theorem nums_new (w : World) (l : List Int) (t : TypeId) (h : l.length ≤ maxLen) : NumsAt .i64 (w.alloc (.cells (l.map (.int .i64)).toArray t)) (.slice (some ⟨w.heap.size, 0, none⟩) l.length l.length) l := by
  refine ⟨_, l.length, rfl, Nat.le_refl _, h, fun _ => ⟨_, 0, rfl, fun k hk => ?_⟩⟩
  rw [cell_of_row _ _ _ _ _ _ (heap_alloc_new w _)]
  simp [List.getElem?_eq_getElem hk]
theorem bcell {W w1 : World} (hb : Below W.heap.size W w1) : (∀ b o, b < W.heap.size → w1.cell? ⟨b, o, none⟩ = W.cell? ⟨b, o, none⟩) ∧ (∀ b o, b < W.heap.size → w1.frozen? ⟨b, o, none⟩ = W.frozen? ⟨b, o, none⟩) :=
  ⟨fun b o h => hb.cell (p := ⟨b, o, none⟩) h, fun b o h => hb.frozen (p := ⟨b, o, none⟩) h⟩
def law7 (L : DLaw) : List Int := [L.piece, L.drive, L.spread, L.brk, L.on, L.off, L.least]
theorem lawB_eq (L : DLaw) : lawB L = ((law7 L).all (fun x => inB x 0 3000) && (decide (0 < L.brk) && inB L.pieces 1 3)) := by
  simp only [lawB, law7, List.all_cons, List.all_nil, inB, inD, Bool.and_true, Bool.and_assoc]

set_option maxRecDepth 100000 in
theorem valid_any (L : DLaw) (w : World) : Calls Tryz.prog 93 #[.agg #[.int .i64 L.piece, .int .i64 L.drive, .int .i64 L.spread, .int .i64 L.brk, .int .i64 L.on, .int .i64 L.off, .int .i64 L.least, .int .i64 L.pieces]] w (Gives w (.bool (lawB L))) := by
  rw [lawB_eq]
  have hb0 : Below w.heap.size w ((w.alloc (.cells #[.int .i64 L.piece, .int .i64 L.drive, .int .i64 L.spread, .int .i64 L.brk, .int .i64 L.on, .int .i64 L.off, .int .i64 L.least, .int .i64 L.pieces] 70)).alloc (.cells #[.int .i64 L.piece, .int .i64 L.drive, .int .i64 L.spread, .int .i64 L.brk, .int .i64 L.on, .int .i64 L.off, .int .i64 L.least] 3)) :=
    ((Below.refl _ _).alloc (Nat.le_refl _) _).alloc (by simp) _
  have hn : NumsAt .i64 ((w.alloc (.cells #[.int .i64 L.piece, .int .i64 L.drive, .int .i64 L.spread, .int .i64 L.brk, .int .i64 L.on, .int .i64 L.off, .int .i64 L.least, .int .i64 L.pieces] 70)).alloc (.cells #[.int .i64 L.piece, .int .i64 L.drive, .int .i64 L.spread, .int .i64 L.brk, .int .i64 L.on, .int .i64 L.off, .int .i64 L.least] 3))
      (.slice (some ⟨w.heap.size + 1, 0, none⟩) 7 7) (law7 L) := by
    have := nums_new (w.alloc (.cells #[.int .i64 L.piece, .int .i64 L.drive, .int .i64 L.spread, .int .i64 L.brk, .int .i64 L.on, .int .i64 L.off, .int .i64 L.least, .int .i64 L.pieces] 70)) (law7 L) 3 (by simp [law7, maxLen])
    simpa [law7] using this
  have Hc := Lib.hid (allM_any _ (law7 L) _ hn)
  clear hn
  cases h1 : (law7 L).all (fun x => inB x 0 3000) with
  | false =>
    rw [h1] at Hc
    clear h1
    go_enter Tryz.func93, Tryz.ntmps93
    go_wp2_with (go_at_call 143; refine Hc.out.mono ?_; rintro e w1 ⟨rfl, hb1⟩)
    go_ret
    exact ⟨rfl, hb0.trans (hb1.mono hb0.size)⟩
  | true =>
    rw [h1] at Hc
    clear h1
    by_cases h2 : 0 < L.brk
    · simp only [h2, decide_true, Bool.true_and]
      go_enter Tryz.func93, Tryz.ntmps93
      go_wp2_with (first
        | (go_at_call 143; refine Hc.out.mono ?_; rintro e w1 ⟨rfl, hb1⟩; have g0 := cell_below hb1 (p := ⟨w.heap.size, 3, none⟩) (x := .int .i64 L.brk) (by simp [go_sem]); have g1 := cell_below hb1 (p := ⟨w.heap.size, 7, none⟩) (x := .int .i64 L.pieces) (by simp [go_sem]))
        | (go_at_call 103; refine (within_same _ _ _ _).mono ?_; rintro e w2 ⟨rfl, rfl⟩))
      go_ret
      exact ⟨rfl, hb0.trans (hb1.mono hb0.size)⟩
    · have h2' : decide (0 < L.brk) = false := by simpa using h2
      simp only [h2', Bool.false_and, Bool.and_false]
      go_enter Tryz.func93, Tryz.ntmps93
      go_wp2_with (go_at_call 143; refine Hc.out.mono ?_; rintro e w1 ⟨rfl, hb1⟩; have g0 := cell_below hb1 (p := ⟨w.heap.size, 3, none⟩) (x := .int .i64 L.brk) (by simp [go_sem]))
      go_ret
      exact ⟨rfl, hb0.trans (hb1.mono hb0.size)⟩

/-! ### reliefs -/
theorem reliefB_eq (n : Nat) (r : Rel) : reliefB n r = (inB r.place 0 ((n : Int) - 1) && (decide (0 ≤ r.lo) && (decide (r.lo ≤ r.hi) && inB r.hi 0 3000))) := rfl
set_option maxRecDepth 100000 in
theorem relief_any (L : DLaw) (u : Value) (A : Option Addr) (n c : Nat) (r : Rel) (w : World) (hn : n ≤ 1000) : Calls Tryz.prog 148 #[.agg #[.int .i64 L.piece, .int .i64 L.drive, .int .i64 L.spread, .int .i64 L.brk, .int .i64 L.on, .int .i64 L.off, .int .i64 L.least, .int .i64 L.pieces, u, .slice A n c], .agg #[.int .i64 r.place, .int .i64 r.lo, .int .i64 r.hi]] w (Gives w (.bool (reliefB n r))) := by
  rw [reliefB_eq]
  have hb0 : Below w.heap.size w ((w.alloc (.cells #[.int .i64 L.piece, .int .i64 L.drive, .int .i64 L.spread, .int .i64 L.brk, .int .i64 L.on, .int .i64 L.off, .int .i64 L.least, .int .i64 L.pieces, u, .slice A n c] 73)).alloc (.cells #[.int .i64 r.place, .int .i64 r.lo, .int .i64 r.hi] 118)) :=
    ((Below.refl _ _).alloc (Nat.le_refl _) _).alloc (by simp) _
  cases h1 : inB r.place 0 ((n : Int) - 1) with
  | false =>
    have H1 := Lib.hid h1
    clear h1
    go_enter Tryz.func148, Tryz.ntmps148
    go_wp2_with (go_at_call 103; refine (Same.to H1.out (within_same _ _ _ _)).mono ?_; rintro e w2 ⟨rfl, rfl⟩)
    go_ret
    exact ⟨rfl, hb0⟩
  | true =>
    have H1 := Lib.hid h1
    clear h1
    by_cases h2 : 0 ≤ r.lo
    · simp only [h2, decide_true, Bool.true_and]
      by_cases h3 : r.lo ≤ r.hi
      · simp only [h3, decide_true, Bool.true_and]
        go_enter Tryz.func148, Tryz.ntmps148
        go_wp2_with (first
          | (go_at_call 103; refine (Same.to H1.out (within_same _ _ _ _)).mono ?_; rintro e w2 ⟨rfl, rfl⟩)
          | (go_at_call 144; refine (minutes_same _ _).mono ?_; rintro e w2 ⟨rfl, rfl⟩))
        go_ret
        exact ⟨rfl, hb0⟩
      · have h3' : decide (r.lo ≤ r.hi) = false := by simpa using h3
        simp only [h3', Bool.false_and, Bool.and_false]
        go_enter Tryz.func148, Tryz.ntmps148
        go_wp2_with (go_at_call 103; refine (Same.to H1.out (within_same _ _ _ _)).mono ?_; rintro e w2 ⟨rfl, rfl⟩)
        go_ret
        exact ⟨rfl, hb0⟩
    · have h2' : decide (0 ≤ r.lo) = false := by simpa using h2
      simp only [h2', Bool.false_and, Bool.and_false]
      go_enter Tryz.func148, Tryz.ntmps148
      go_wp2_with (go_at_call 103; refine (Same.to H1.out (within_same _ _ _ _)).mono ?_; rintro e w2 ⟨rfl, rfl⟩)
      go_ret
      exact ⟨rfl, hb0⟩
theorem relief_val (L : DLaw) (u : Value) (A : Option Addr) (n c : Nat) (r : Rel) (w : World) (hn : n ≤ 1000) : CallsVal Tryz.prog (.func (.func 148) #[.agg #[.int .i64 L.piece, .int .i64 L.drive, .int .i64 L.spread, .int .i64 L.brk, .int .i64 L.on, .int .i64 L.off, .int .i64 L.least, .int .i64 L.pieces, u, .slice A n c]] #[]) #[.agg #[.int .i64 r.place, .int .i64 r.lo, .int .i64 r.hi]] w (Gives w (.bool (reliefB n r))) :=
  ⟨148, #[.agg #[.int .i64 L.piece, .int .i64 L.drive, .int .i64 L.spread, .int .i64 L.brk, .int .i64 L.on, .int .i64 L.off, .int .i64 L.least, .int .i64 L.pieces, u, .slice A n c], .agg #[.int .i64 r.place, .int .i64 r.lo, .int .i64 r.hi]], by kernel_rfl, relief_any L u A n c r w hn⟩
theorem allR_any (L : DLaw) (u : Value) (A : Option Addr) (n c : Nat) (v : Value) (l : List Rel) (w : World) (hv : RelsAt w v l) (hn : n ≤ 1000) :
    Calls Tryz.prog 147 #[v, .func (.func 148) #[.agg #[.int .i64 L.piece, .int .i64 L.drive, .int .i64 L.spread, .int .i64 L.brk, .int .i64 L.on, .int .i64 L.off, .int .i64 L.least, .int .i64 L.pieces, u, .slice A n c]] #[]] w (Gives w (.bool (l.all (reliefB n)))) :=
  all_rels _ _ _ _ v l w hv fun k x w' _ _ => relief_val L u A n c x w' hn
end Go.Proofs.YtckgapeednokjaaGreat
namespace Go.Proofs.YtckgapeednokjaaGreat
open Go Go.Proofs Go.RowKit

/-! ### blocks -/
/-- The reliefs up to number k rise. -/
def RiseTo (l : List Rel) (k : Nat) : Prop := ∀ (i : Nat) (r s : Rel), i + 1 < k → l[i]? = some r → l[i + 1]? = some s → r.lo ≤ s.lo ∧ r.hi ≤ s.hi
theorem drewN_below {B : Nat} {a w : World} (h : Below B a w) (n : Nat) : Below B a (w.drewN n) := ⟨h.os, h.tape, h.output, h.size, h.block⟩
theorem box_cells {w : World} {B : Nat} {xs : Array Value} {t : TypeId} (h : w.heap[B]? = some (.cells xs t (0, 0))) : ∀ o, w.cell? ⟨B, o, none⟩ = xs[o]? := fun o => by simp [World.cell?, h]
theorem riseTo_all {l : List Rel} (h : RiseTo l l.length) : risesB l = true :=
  risesB_iff.2 fun i r s hr hs => h i r s (List.getElem?_eq_some_iff.1 hs).1 hr hs
theorem riseTo_not {l : List Rel} {k : Nat} {r s : Rel} (hr : l[k]? = some r) (hs : l[k + 1]? = some s) (h : s.lo < r.lo ∨ s.hi < r.hi) : risesB l = false := by
  rw [Bool.eq_false_iff]
  intro hb
  have := risesB_iff.1 hb k r s hr hs
  omega
theorem riseTo_step {l : List Rel} {k : Nat} {r s : Rel} (h : RiseTo l (k + 1)) (hr : l[k]? = some r) (hs : l[k + 1]? = some s) (h1 : ¬ s.lo < r.lo) (h2 : ¬ s.hi < r.hi) : RiseTo l (k + 1 + 1) := fun i a b hi ha hb => by
  by_cases e : i = k
  · subst e
    rw [hr] at ha
    rw [hs] at hb
    cases ha
    cases hb
    omega
  · exact h i a b (by omega) ha hb

set_option maxRecDepth 100000 in
set_option maxHeartbeats 1000000 in
theorem block_any (L : DLaw) (u : Value) (A : Option Addr) (n c : Nat) (v : Value) (l : List Rel) (w : World) (hv : RelsAt w v l) (hn : n ≤ 1000) (hl : l.length ≤ 1000) :
    Calls Tryz.prog 96 #[.agg #[.int .i64 L.piece, .int .i64 L.drive, .int .i64 L.spread, .int .i64 L.brk, .int .i64 L.on, .int .i64 L.off, .int .i64 L.least, .int .i64 L.pieces, u, .slice A n c], v] w (Gives w (.bool (blockB n l))) := by
  obtain ⟨A1, c1, rfl, hc, hm⟩ := hv.form
  have hb0 : Below w.heap.size w (w.alloc (.cells #[.int .i64 L.piece, .int .i64 L.drive, .int .i64 L.spread, .int .i64 L.brk, .int .i64 L.on, .int .i64 L.off, .int .i64 L.least, .int .i64 L.pieces, u, .slice A n c] 73)) := (Below.refl _ _).alloc (Nat.le_refl _) _
  go_enter Tryz.func96, Tryz.ntmps96
  go_wp2
  go_loopw [9] (fun j wr => ∃ k : Nat, k ≤ l.length ∧ j = .int .i64 k ∧ Below w.heap.size w wr ∧ wr.heap[w.heap.size]? = some (.cells #[.int .i64 L.piece, .int .i64 L.drive, .int .i64 L.spread, .int .i64 L.brk, .int .i64 L.on, .int .i64 L.off, .int .i64 L.least, .int .i64 L.pieces, u, .slice A n c] 73 (0, 0)) ∧ RiseTo l k) (fun j wr => l.length - (intOf j).toNat)
  case atStart => exact ⟨0, by omega, rfl, hb0, heap_alloc_new w _, fun i r s h => by omega⟩
  case round =>
    obtain ⟨k, hk, rfl, hb, hbox, hris⟩ := hrel
    obtain ⟨wo, rfl⟩ : ∃ wo : World, wo = wr := ⟨_, rfl⟩
    have hlw : w.heap.size < wo.heap.size := (Array.getElem?_eq_some_iff.1 hbox).1
    have Hris := Lib.hid hris
    clear hris
    by_cases hlt : k < l.length
    · obtain ⟨b, o, s, rfl, hs, c0, c1', c2, hblt⟩ := hv.at_ hlt
      replace c0 := cell_below hb c0
      replace c1' := cell_below hb c1'
      replace c2 := cell_below hb c2
      have hbw : b < wo.heap.size := World.block_lt_of_cell? _ _ c0
      have Hs := Lib.hid hs
      have Hbox := Lib.hid hbox
      clear hs hbox
      have hal : Below w.heap.size w (wo.alloc (.cells #[.int .i64 s.place, .int .i64 s.lo, .int .i64 s.hi] 118)) := hb.alloc (by omega) _
      have hbx : (wo.alloc (.cells #[.int .i64 s.place, .int .i64 s.lo, .int .i64 s.hi] 118)).heap[w.heap.size]? = some (.cells #[.int .i64 L.piece, .int .i64 L.drive, .int .i64 L.spread, .int .i64 L.brk, .int .i64 L.on, .int .i64 L.off, .int .i64 L.least, .int .i64 L.pieces, u, .slice A n c] 73 (0, 0)) := (Below.heap_alloc _ _ _ hlw).trans Hbox.out
      have Hbx := Lib.hid hbx
      clear hbx Hbox
      by_cases hk0 : k = 0
      · have hd : decide (0 < k) = false := by simpa using hk0
        have hi : k + 1 ≤ l.length := by omega
        have Hk0 := Lib.hid hk0
        clear hk0
        go_wp2
        go_quiet (fail)
        go_wp2
        go_roundw
        case rel =>
          refine ⟨k + 1, hi, by go_num, drewN_below hal _, Hbx.out, fun i r t h => ?_⟩
          have := Hk0.out
          omega
        case measure => simp [intOf]; omega
      · obtain ⟨j, hj⟩ : ∃ j, k = j + 1 := ⟨k - 1, by omega⟩
        obtain ⟨b', o', t, e, ht, d0, d1, d2, _⟩ := hv.at_ (k := j) (by omega)
        cases e
        replace d0 := cell_below hb d0
        replace d1 := cell_below hb d1
        replace d2 := cell_below hb d2
        have hd : decide (0 < k) = true := by simp; omega
        have q1 : IntKind.i64.wrap ((k : Int) - 1) = (j : Int) := by rw [IntWalk.i64_in _ (by omega)]; omega
        have q2 : j < l.length := by omega
        have Hs' : Hid (l[j + 1]? = some s) := Lib.hid (by rw [← hj]; exact Hs.out)
        have Ht := Lib.hid ht
        have Hj := Lib.hid hj
        clear ht hj hk0
        by_cases h1 : s.lo < t.lo
        · have h1' : decide (s.lo < t.lo) = true := by simpa using h1
          have Hf := Lib.hid (riseTo_not Ht.out Hs'.out (.inl h1))
          clear h1
          go_wp2
          go_quiet (fail)
          go_wp2
          go_ret
          exact gives_bool (by rw [blockB, Hf.out]; rfl) (drewN_below hal _)
        · have h1' : decide (s.lo < t.lo) = false := by simpa using h1
          by_cases h2 : s.hi < t.hi
          · have h2' : decide (s.hi < t.hi) = true := by simpa using h2
            have Hf := Lib.hid (riseTo_not Ht.out Hs'.out (.inr h2))
            clear h1 h2
            go_wp2
            go_quiet (fail)
            go_wp2
            go_ret
            exact gives_bool (by rw [blockB, Hf.out]; rfl) (drewN_below hal _)
          · have h2' : decide (s.hi < t.hi) = false := by simpa using h2
            have hr : RiseTo l (j + 1) := by rw [← Hj.out]; exact Hris.out
            have Hf := Lib.hid (riseTo_step hr Ht.out Hs'.out h1 h2)
            clear h1 h2 hr
            go_wp2
            go_quiet (fail)
            go_wp2
            go_roundw
            case rel => exact ⟨k + 1, by omega, by go_num, drewN_below hal _, Hbx.out, by rw [Hj.out]; exact Hf.out⟩
            case measure => simp [intOf]; omega
    · obtain rfl : k = l.length := by omega
      have Hr := Lib.hid (riseTo_all Hris.out)
      have g0 := box_cells hbox
      have hvo := hv.below hb
      have Hall := Lib.hid (allR_any L u A n c _ l wo hvo hn)
      by_cases h2 : 2 ≤ l.length
      · have h2d : decide (2 ≤ l.length) = true := by simpa using h2
        go_wp2_with (go_at_call 147; refine Hall.out.mono ?_; rintro e w1 ⟨rfl, hb1⟩)
        go_ret
        exact gives_bool (by rw [blockB, Hr.out, h2d]; rfl) (hb.trans (hb1.mono hb.size))
      · have h2d : decide (2 ≤ l.length) = false := by simpa using h2
        go_wp2
        go_ret
        exact gives_bool (by rw [blockB, Hr.out, h2d]; rfl) hb
theorem block_val (L : DLaw) (u : Value) (A : Option Addr) (n c : Nat) (v : Value) (l : List Rel) (w : World) (hv : RelsAt w v l) (hn : n ≤ 1000) (hl : l.length ≤ 1000) : CallsVal Tryz.prog (.func (.func 96) #[.agg #[.int .i64 L.piece, .int .i64 L.drive, .int .i64 L.spread, .int .i64 L.brk, .int .i64 L.on, .int .i64 L.off, .int .i64 L.least, .int .i64 L.pieces, u, .slice A n c]] #[]) #[v] w (Gives w (.bool (blockB n l))) :=
  ⟨96, #[.agg #[.int .i64 L.piece, .int .i64 L.drive, .int .i64 L.spread, .int .i64 L.brk, .int .i64 L.on, .int .i64 L.off, .int .i64 L.least, .int .i64 L.pieces, u, .slice A n c], v], by kernel_rfl, block_any L u A n c v l w hv hn hl⟩
theorem allB_any (L : DLaw) (u : Value) (A : Option Addr) (n c : Nat) (v : Value) (l : List (List Rel)) (w : World) (hv : BlocksAt w v l) (hn : n ≤ 1000) (hl : ∀ (b : Nat) (x : List Rel), l[b]? = some x → x.length ≤ 1000) :
    Calls Tryz.prog 95 #[v, .func (.func 96) #[.agg #[.int .i64 L.piece, .int .i64 L.drive, .int .i64 L.spread, .int .i64 L.brk, .int .i64 L.on, .int .i64 L.off, .int .i64 L.least, .int .i64 L.pieces, u, .slice A n c]] #[]] w (Gives w (.bool (l.all (blockB n)))) :=
  all_blocks _ _ _ _ v l w hv fun k x u' w' hx hr _ => block_val L u A n c u' x w' hr hn (hl k x hx)
end Go.Proofs.YtckgapeednokjaaGreat
namespace Go.Proofs.YtckgapeednokjaaGreat
open Go Go.Proofs Go.RowKit

/-! ### ways and segments -/
theorem segN_take_succ {bl : List (List Rel)} {k : Nat} {l : List Rel} (h : bl[k]? = some l) : segN (bl.take (k + 1)) = segN (bl.take k) + (l.length - 1) := by
  obtain ⟨hk, rfl⟩ := List.getElem?_eq_some_iff.1 h
  rw [List.take_succ_eq_append_getElem hk]
  have : ∀ (a : List (List Rel)) (l : List Rel), segN (a ++ [l]) = segN a + (l.length - 1) := by
    intro a l
    induction a with
    | nil => simp [segN]
    | cons x a ih => simp only [List.cons_append, segN, ih]; omega
  exact this _ _
theorem segN_take_le {bl : List (List Rel)} (hl : ∀ (b : Nat) (x : List Rel), bl[b]? = some x → x.length ≤ 1000) : ∀ k, segN (bl.take k) ≤ 1000 * k
  | 0 => by simp [segN]
  | k + 1 => by
    have ih := segN_take_le hl k
    cases h : bl[k]? with
    | none =>
      rw [List.take_of_length_le (by have := List.getElem?_eq_none_iff.1 h; omega)]
      rw [List.take_of_length_le (by have := List.getElem?_eq_none_iff.1 h; omega)] at ih
      omega
    | some l =>
      rw [segN_take_succ h]
      have := hl k l h
      omega
set_option maxRecDepth 100000 in
theorem segments_any (L : DLaw) (v z : Value) (bl : List (List Rel)) (w : World) (hv : BlocksAt w v bl) (hn : bl.length ≤ 1000) (hl : ∀ (b : Nat) (x : List Rel), bl[b]? = some x → x.length ≤ 1000) :
    Calls Tryz.prog 92 #[.agg #[.int .i64 L.piece, .int .i64 L.drive, .int .i64 L.spread, .int .i64 L.brk, .int .i64 L.on, .int .i64 L.off, .int .i64 L.least, .int .i64 L.pieces, v, z]] w (Gives w (.int .i64 (segN bl : Int))) := by
  obtain ⟨A1, c1, rfl, hc, hm⟩ := hv.form
  have hb0 : Below w.heap.size w (w.alloc (.cells #[.int .i64 L.piece, .int .i64 L.drive, .int .i64 L.spread, .int .i64 L.brk, .int .i64 L.on, .int .i64 L.off, .int .i64 L.least, .int .i64 L.pieces, .slice A1 bl.length c1, z] 73)) := (Below.refl _ _).alloc (Nat.le_refl _) _
  have Hle := Lib.hid (segN_take_le hl)
  have hv1 := hv.below hb0
  go_enter Tryz.func92, Tryz.ntmps92
  go_wp2
  go_loop [2, 8] (fun s j => ∃ k : Nat, k ≤ bl.length ∧ j = .int .i64 k ∧ s = .int .i64 (segN (bl.take k) : Int)) (fun s j => bl.length - (intOf j).toNat)
  case atStart => exact ⟨0, by omega, rfl, rfl⟩
  case round =>
    obtain ⟨k, hk, rfl, rfl⟩ := hrel
    by_cases hlt : k < bl.length
    · obtain ⟨b, o, l, u, rfl, hs, c0, hr, hblt⟩ := hv1.at_ hlt
      obtain ⟨A2, c2, rfl, hc2, hm2⟩ := hr.form
      have h1 := Hle.out k
      have hs2 : (segN (bl.take (k + 1)) : Int) = segN (bl.take k) + if 1 < (l.length : Int) then (l.length : Int) - 1 else 0 := by
        rw [segN_take_succ hs]
        split <;> omega
      have hl2 := hl k l hs
      have Hs2 := Lib.hid hs2
      clear hs hs2
      generalize segN (bl.take k) = S at *
      go_wp2
      go_round
      case rel => exact ⟨k + 1, by omega, by go_num, by rw [Hs2.out]⟩
      case measure => simp [intOf]; omega
    · obtain rfl : k = bl.length := by omega
      go_wp2
      go_ret
      exact ⟨rfl, hb0⟩

theorem walksB_eq (ll : List (List Int)) : walksB ll = ((List.range ll.length).all (fun a => rowOk ll.length a (ll[a]?.getD [])) && decide (0 < ll.length)) := rfl
theorem walks_no {ll : List (List Int)} {k : Nat} (hk : k < ll.length) (h : rowOk ll.length k (ll[k]?.getD []) = false) : walksB ll = false := by
  rw [walksB_eq, List.all_eq_false.2 ⟨k, List.mem_range.2 hk, by simp [h]⟩]
  rfl
theorem walks_yes {ll : List (List Int)} (h : ∀ k, k < ll.length → rowOk ll.length k (ll[k]?.getD []) = true) : walksB ll = decide (0 < ll.length) := by
  rw [walksB_eq, List.all_eq_true.2 fun a ha => h a (List.mem_range.1 ha)]
  rfl
set_option maxRecDepth 100000 in
set_option maxHeartbeats 800000 in
theorem walks_any (L : DLaw) (v z : Value) (ll : List (List Int)) (w : World) (hv : RowsAt w z ll) (hn : ll.length ≤ 1000) (hl : ∀ (b : Nat) (x : List Int), ll[b]? = some x → x.length ≤ 1000) :
    Calls Tryz.prog 94 #[.agg #[.int .i64 L.piece, .int .i64 L.drive, .int .i64 L.spread, .int .i64 L.brk, .int .i64 L.on, .int .i64 L.off, .int .i64 L.least, .int .i64 L.pieces, v, z]] w (Gives w (.bool (walksB ll))) := by
  obtain ⟨A1, c1, rfl, hc, hm⟩ := hv.form
  have hb0 : Below w.heap.size w (w.alloc (.cells #[.int .i64 L.piece, .int .i64 L.drive, .int .i64 L.spread, .int .i64 L.brk, .int .i64 L.on, .int .i64 L.off, .int .i64 L.least, .int .i64 L.pieces, v, .slice A1 ll.length c1] 73)) := (Below.refl _ _).alloc (Nat.le_refl _) _
  go_enter Tryz.func94, Tryz.ntmps94
  go_wp2
  go_loopw [8] (fun j wr => ∃ k : Nat, k ≤ ll.length ∧ j = .int .i64 k ∧ Below w.heap.size w wr ∧ wr.cell? ⟨w.heap.size, 9, none⟩ = some (.slice A1 ll.length c1) ∧ ∀ i, i < k → rowOk ll.length i (ll[i]?.getD []) = true) (fun j wr => ll.length - (intOf j).toNat)
  case atStart => exact ⟨0, by omega, rfl, hb0, by simp [go_sem], by omega⟩
  case round =>
    obtain ⟨k, hk, rfl, hb, g9, hall⟩ := hrel
    have Hall := Lib.hid hall
    clear hall
    by_cases hlt : k < ll.length
    · obtain ⟨b, o, l, u, rfl, hs, c0, hr, hblt⟩ := hv.at_ hlt
      obtain ⟨A2, c2, rfl, hc2, hm2⟩ := hr.form
      replace c0 := cell_below hb c0
      have hrw := hr.below hb
      have hl2 := hl k l hs
      have hrow : ll[k]?.getD [] = l := by rw [hs]; rfl
      have Hrow := Lib.hid hrow
      have hno : rowOk ll.length k l = false → walksB ll = false := fun h => walks_no hlt (by rw [Hrow.out]; exact h)
      have Hno := Lib.hid hno
      clear hs hrow hno
      have Hc := Lib.hid (allM_any _ l wr hrw)
      by_cases h1 : l.length = ll.length
      · cases h2 : l.all (fun x => inB x 0 3000) with
        | false =>
          rw [h2] at Hc
          have Hf := Lib.hid (Hno.out (by unfold rowOk; rw [show (l.all fun x => inD x 0 3000) = false from h2]; simp))
          have hd : ((l.length : Int) != (ll.length : Int)) = false := by simp [h1]
          clear h1 h2
          go_wp2_with (go_at_call 143; refine Hc.out.mono ?_; rintro e w1 ⟨rfl, hb1⟩)
          go_ret
          exact gives_bool Hf.out.symm (hb.trans (hb1.mono hb.size))
        | true =>
          rw [h2] at Hc
          obtain ⟨b', o', x, e, hx, d0, hbx⟩ := hrw.at_ (k := k) (by omega)
          cases e
          have hd : ((l.length : Int) != (ll.length : Int)) = false := by simp [h1]
          have i1 : (k : Int) < (l.length : Int) := by omega
          have H1 := Lib.hid h1
          have H2 := Lib.hid h2
          have Hx := Lib.hid hx
          clear h1 h2 hx
          by_cases hx0 : x = 0
          · subst hx0
            have Hy := Lib.hid (show rowOk ll.length k l = true by unfold rowOk; rw [show (l.all fun x => inD x 0 3000) = true from H2.out, H1.out, Hx.out]; simp)
            go_wp2_with (go_at_call 143; refine Hc.out.mono ?_; rintro e w1 ⟨rfl, hb1⟩; replace d0 := cell_below hb1 d0)
            go_roundw
            case rel =>
              refine ⟨k + 1, by omega, by go_num, hb.trans (hb1.mono hb.size), cell_below hb1 g9, fun i hi => ?_⟩
              by_cases e : i = k
              · subst e; rw [Hrow.out]; exact Hy.out
              · exact Hall.out i (by omega)
            case measure => simp [intOf]; omega
          · have hxd : (x != 0) = true := by simp [hx0]
            have hxe : (x == 0) = false := by simp [hx0]
            have Hf := Lib.hid (Hno.out (by unfold rowOk; rw [Hx.out]; simp [hxe]))
            clear hx0
            go_wp2_with (go_at_call 143; refine Hc.out.mono ?_; rintro e w1 ⟨rfl, hb1⟩; replace d0 := cell_below hb1 d0)
            go_ret
            exact gives_bool Hf.out.symm (hb.trans (hb1.mono hb.size))
      · have hd : ((l.length : Int) != (ll.length : Int)) = true := by simp; omega
        have Hf := Lib.hid (Hno.out (by unfold rowOk; rw [decide_eq_false h1]; rfl))
        clear h1
        go_wp2
        go_ret
        exact gives_bool Hf.out.symm hb
    · obtain rfl : k = ll.length := by omega
      have Hy := Lib.hid (walks_yes Hall.out)
      go_wp2
      go_ret
      exact gives_bool (by rw [Hy.out]) hb
end Go.Proofs.YtckgapeednokjaaGreat
namespace Go.Proofs.YtckgapeednokjaaGreat
open Go Go.Proofs Go.RowKit

/-! ### The error of a day -/
structure Mild (d : DDay) : Prop where
  blocks : d.blocks.length ≤ 1000
  block : ∀ (b : Nat) (x : List Rel), d.blocks[b]? = some x → x.length ≤ 1000
  walk : d.walk.length ≤ 1000
  row : ∀ (b : Nat) (x : List Int), d.walk[b]? = some x → x.length ≤ 1000
/-- A day in memory. -/
structure DayAt (w : World) (u z : Value) (d : DDay) : Prop where
  blocks : BlocksAt w u d.blocks
  walk : RowsAt w z d.walk
theorem DayAt.below {w w' : World} {u z : Value} {d : DDay} (h : DayAt w u z d) (hb : Below w.heap.size w w') : DayAt w' u z d := ⟨h.blocks.below hb, h.walk.below hb⟩
theorem fault_3 {d : DDay} (h : 6 < d.blocks.length ∨ 5 < d.walk.length ∨ 10 < segN d.blocks) : faultD d = 3 := if_pos h
theorem fault_eq {d : DDay} (h : ¬ (6 < d.blocks.length ∨ 5 < d.walk.length ∨ 10 < segN d.blocks)) : faultD d = if lawB d.law && (walksB d.walk && d.blocks.all (blockB d.walk.length)) then 0 else 1 := if_neg h

set_option maxRecDepth 100000 in
set_option maxHeartbeats 1600000 in
theorem CheckDay_any (d : DDay) (u z : Value) (w : World) (hd : DayAt w u z d) (hm : Mild d) :
    Calls Tryz.prog 54 #[.agg #[.int .i64 d.law.piece, .int .i64 d.law.drive, .int .i64 d.law.spread, .int .i64 d.law.brk, .int .i64 d.law.on, .int .i64 d.law.off, .int .i64 d.law.least, .int .i64 d.law.pieces, u, z]] w (Gives w (.int .i64 (faultD d))) := by
  obtain ⟨A1, c1, rfl, hc1, hm1⟩ := hd.blocks.form
  obtain ⟨A2, c2, rfl, hc2, hm2⟩ := hd.walk.form
  have hb0 : Below w.heap.size w (w.alloc (.cells #[.int .i64 d.law.piece, .int .i64 d.law.drive, .int .i64 d.law.spread, .int .i64 d.law.brk, .int .i64 d.law.on, .int .i64 d.law.off, .int .i64 d.law.least, .int .i64 d.law.pieces, .slice A1 d.blocks.length c1, .slice A2 d.walk.length c2] 73)) := (Below.refl _ _).alloc (Nat.le_refl _) _
  have hm3 := hm.blocks
  have hm4 := hm.walk
  have hbl := hd.blocks.below hb0
  have Hs := Lib.hid (segments_any d.law (.slice A1 d.blocks.length c1) (.slice A2 d.walk.length c2) d.blocks _ hbl hm.blocks hm.block)
  have hsn := segN_take_le hm.block d.blocks.length
  rw [List.take_length] at hsn
  have Hd := Lib.hid hd
  clear hd
  by_cases h1 : 6 < d.blocks.length
  · have Hf := Lib.hid (fault_3 (.inl h1))
    have h1I : (6 : Int) < (d.blocks.length : Int) := by omega
    go_enter Tryz.func54, Tryz.ntmps54
    go_wp2
    go_ret
    exact gives_int Hf.out.symm hb0
  · by_cases h2 : 5 < d.walk.length
    · have Hf := Lib.hid (fault_3 (.inr (.inl h2)))
      have h1I : ¬ (6 : Int) < (d.blocks.length : Int) := by omega
      have h2I : (5 : Int) < (d.walk.length : Int) := by omega
      go_enter Tryz.func54, Tryz.ntmps54
      go_wp2
      go_ret
      exact gives_int Hf.out.symm hb0
    · have h1I : ¬ (6 : Int) < (d.blocks.length : Int) := by omega
      have h2I : ¬ (5 : Int) < (d.walk.length : Int) := by omega
      by_cases h3 : 10 < segN d.blocks
      · have Hf := Lib.hid (fault_3 (.inr (.inr h3)))
        have h3I : (10 : Int) < (segN d.blocks : Int) := by omega
        go_enter Tryz.func54, Tryz.ntmps54
        go_wp2_with (go_at_call 92; refine Hs.out.mono ?_; rintro e w1 ⟨rfl, hb1⟩)
        go_ret
        exact gives_int Hf.out.symm (hb0.trans (hb1.mono hb0.size))
      · have h3I : ¬ (10 : Int) < (segN d.blocks : Int) := by omega
        have hfe := fault_eq (d := d) (by omega)
        cases h4 : lawB d.law with
        | false =>
          rw [h4] at hfe
          have Hf := Lib.hid hfe
          have H4 := Lib.hid h4
          clear hfe h4
          go_enter Tryz.func54, Tryz.ntmps54
          go_wp2_with (first
            | (go_at_call 92; refine Hs.out.mono ?_; rintro e w1 ⟨rfl, hb1⟩; obtain ⟨gc, gf⟩ := bcell hb1)
            | (go_at_call 93; refine (Gives.to H4.out (valid_any _ _)).mono ?_; rintro e w2 ⟨rfl, hb2⟩))
          go_ret
          exact gives_int Hf.out.symm (hb0.trans ((hb1.trans (hb2.mono hb1.size)).mono hb0.size))
        | true =>
          cases h5 : walksB d.walk with
          | false =>
            rw [h4, h5] at hfe
            have Hf := Lib.hid hfe
            have H4 := Lib.hid h4
            have H5 := Lib.hid h5
            clear hfe h4 h5
            go_enter Tryz.func54, Tryz.ntmps54
            go_wp2_with fail
            refine Hs.out.mono ?_; rintro e w1 ⟨rfl, hb1⟩
            obtain ⟨gc, gf⟩ := bcell hb1
            have hw1 := hb0.trans (hb1.mono hb0.size)
            go_wp2_with fail
            refine (Gives.to H4.out (valid_any _ _)).mono ?_; rintro e w2 ⟨rfl, hb2⟩
            obtain ⟨gc2, gf2⟩ := bcell hb2
            have hsz : w.heap.size < w1.heap.size := by have := hb1.size; simp at this; omega
            have hw2 := hw1.trans (hb2.mono hw1.size)
            go_wp2_with fail
            refine (Gives.to H5.out (walks_any _ _ _ _ _ (Hd.out.walk.below hw2) hm.walk hm.row)).mono ?_; rintro e w3 ⟨rfl, hb3⟩
            go_wp2
            go_ret
            exact gives_int Hf.out.symm (hw2.trans (hb3.mono hw2.size))
          | true =>
            rw [h4, h5] at hfe
            have H4 := Lib.hid h4
            have H5 := Lib.hid h5
            clear h4 h5
            obtain ⟨ok, hok⟩ : ∃ ok, (d.blocks.all (blockB d.walk.length)) = ok := ⟨_, rfl⟩
            rw [hok] at hfe
            have Hok := Lib.hid hok
            have Hf := Lib.hid hfe
            clear hfe hok
            go_enter Tryz.func54, Tryz.ntmps54
            go_wp2_with fail
            refine Hs.out.mono ?_; rintro e w1 ⟨rfl, hb1⟩
            obtain ⟨gc, gf⟩ := bcell hb1
            have hw1 := hb0.trans (hb1.mono hb0.size)
            go_wp2_with fail
            refine (Gives.to H4.out (valid_any _ _)).mono ?_; rintro e w2 ⟨rfl, hb2⟩
            obtain ⟨gc2, gf2⟩ := bcell hb2
            have hsz : w.heap.size < w1.heap.size := by have := hb1.size; simp at this; omega
            have hw2 := hw1.trans (hb2.mono hw1.size)
            go_wp2_with fail
            refine (Gives.to H5.out (walks_any _ _ _ _ _ (Hd.out.walk.below hw2) hm.walk hm.row)).mono ?_; rintro e w3 ⟨rfl, hb3⟩
            obtain ⟨gc3, gf3⟩ := bcell hb3
            have hsz2 : w.heap.size < w2.heap.size := by have := hb2.size; omega
            have hw3 := hw2.trans (hb3.mono hw2.size)
            go_wp2_with fail
            refine (Gives.to Hok.out (allB_any _ _ _ _ _ _ _ _ (Hd.out.blocks.below hw3) hm4 hm.block)).mono ?_; rintro e w4 ⟨rfl, hb4⟩
            cases ok with
            | false =>
              go_wp2
              go_ret
              exact gives_int Hf.out.symm (hw3.trans (hb4.mono hw3.size))
            | true =>
              go_wp2
              go_ret
              exact gives_int Hf.out.symm (hw3.trans (hb4.mono hw3.size))
end Go.Proofs.YtckgapeednokjaaGreat
namespace Go.Proofs.YtckgapeednokjaaGreat
open Go Go.Proofs Go.RowKit

/-! ### The segments of a day -/
theorem segsFrom_append : ∀ (a : List (List Rel)) (l : List Rel) (b : Nat), segsFrom b (a ++ [l]) = segsFrom b a ++ (List.range (l.length - 1)).map fun i => (b + a.length, i)
  | [], l, b => by simp [segsFrom]
  | x :: a, l, b => by
    simp only [List.cons_append, segsFrom, segsFrom_append a l (b + 1), List.length_cons, List.append_assoc]
    congr 2
    apply List.map_congr_left
    intro i _
    rw [show b + 1 + a.length = b + (a.length + 1) by omega]
theorem segs_take_succ {bl : List (List Rel)} {k : Nat} {l : List Rel} (h : bl[k]? = some l) : segs (bl.take (k + 1)) = segs (bl.take k) ++ (List.range (l.length - 1)).map fun i => (k, i) := by
  obtain ⟨hk, rfl⟩ := List.getElem?_eq_some_iff.1 h
  rw [List.take_succ_eq_append_getElem hk]
  unfold segs
  rw [segsFrom_append]
  simp [Nat.min_eq_left (Nat.le_of_lt hk)]
def segC (s : Nat × Nat) : List Value := [.int .i64 (s.1 : Int), .int .i64 (s.2 : Int), .int .i64 (s.1 : Int), .int .i64 ((s.2 : Int) + 1)]
def segCells (l : List (Nat × Nat)) : List Value := l.flatMap segC
theorem segCells_snoc (l : List (Nat × Nat)) (s : Nat × Nat) : segCells (l ++ [s]) = segCells l ++ segC s := by simp [segCells]
theorem flat_get {α : Type} {f : α → List Value} {n : Nat} (hn : ∀ a, (f a).length = n) : ∀ {l : List α} {k j : Nat} {a : α}, l[k]? = some a → j < n → (l.flatMap f)[k * n + j]? = (f a)[j]?
  | [], k, j, a, h, _ => by simp at h
  | x :: l, 0, j, a, h, hj => by
    simp at h
    subst h
    rw [List.flatMap_cons, List.getElem?_append, if_pos (by rw [hn]; omega)]
    simp
  | x :: l, k + 1, j, a, h, hj => by
    rw [List.flatMap_cons, List.getElem?_append, if_neg (by rw [hn, Nat.succ_mul]; omega)]
    have := flat_get (f := f) hn (l := l) (k := k) (j := j) (a := a) (by simpa using h) hj
    rw [← this]
    congr 1
    rw [hn, Nat.succ_mul]
    omega
theorem flat_length {α : Type} {f : α → List Value} {n : Nat} (hn : ∀ a, (f a).length = n) : ∀ (l : List α), (l.flatMap f).length = l.length * n
  | [] => by simp
  | x :: l => by rw [List.flatMap_cons, List.length_append, hn, flat_length hn l, List.length_cons, Nat.succ_mul]; omega
/-- A slice of segments. -/
def SegsAt (w : World) (v : Value) (l : List (Nat × Nat)) : Prop :=
  ∃ A c, v = .slice A l.length c ∧ l.length ≤ c ∧ c ≤ maxLen ∧
    (0 < l.length → ∃ b o, A = some ⟨b, o, none⟩ ∧ ∀ k s, l[k]? = some s → w.cell? ⟨b, o + k * 4, none⟩ = some (.int .i64 (s.1 : Int)) ∧ w.cell? ⟨b, o + k * 4 + 1, none⟩ = some (.int .i64 (s.2 : Int)) ∧
      w.cell? ⟨b, o + k * 4 + 2, none⟩ = some (.int .i64 (s.1 : Int)) ∧ w.cell? ⟨b, o + k * 4 + 3, none⟩ = some (.int .i64 ((s.2 : Int) + 1)))
section
variable {w w' : World} {v : Value}
theorem SegsAt.below {l : List (Nat × Nat)} (h : SegsAt w v l) (hb : Below w.heap.size w w') : SegsAt w' v l := by
  obtain ⟨A, c, rfl, h1, h2, h3⟩ := h
  refine ⟨A, c, rfl, h1, h2, fun hp => ?_⟩
  obtain ⟨b, o, e, hc⟩ := h3 hp
  refine ⟨b, o, e, fun k r hr => ?_⟩
  obtain ⟨c0, c1, c2, c3⟩ := hc k r hr
  exact ⟨cell_below hb c0, cell_below hb c1, cell_below hb c2, cell_below hb c3⟩
theorem SegsAt.form {l : List (Nat × Nat)} (h : SegsAt w v l) : ∃ A c, v = .slice A l.length c ∧ l.length ≤ c ∧ c ≤ 9223372036854775807 := by
  obtain ⟨A, c, e, h1, h2, _⟩ := h
  exact ⟨A, c, e, h1, by simpa [maxLen] using h2⟩
theorem SegsAt.at_ {A : Option Addr} {n c : Nat} {l : List (Nat × Nat)} (h : SegsAt w (.slice A n c) l) {k : Nat} (hk : k < l.length) :
    ∃ b o s, A = some ⟨b, o, none⟩ ∧ l[k]? = some s ∧ w.cell? ⟨b, o + k * 4, none⟩ = some (.int .i64 (s.1 : Int)) ∧ w.cell? ⟨b, o + k * 4 + 1, none⟩ = some (.int .i64 (s.2 : Int)) ∧
      w.cell? ⟨b, o + k * 4 + 2, none⟩ = some (.int .i64 (s.1 : Int)) ∧ w.cell? ⟨b, o + k * 4 + 3, none⟩ = some (.int .i64 ((s.2 : Int) + 1)) ∧ b < w.heap.size := by
  obtain ⟨A', c', e, _, _, hT⟩ := h
  cases e
  obtain ⟨b, o, e, hc⟩ := hT (by omega)
  obtain ⟨h0, h1, h2, h3⟩ := hc k l[k] (List.getElem?_eq_getElem hk)
  exact ⟨b, o, _, e, List.getElem?_eq_getElem hk, h0, h1, h2, h3, World.block_lt_of_cell? _ _ h1⟩
theorem segs_of_own {base : Nat} {e : TypeId} {n : Nat} {l : List (Nat × Nat)} (h : w.ownsRow base e 4 v n (segCells l)) : SegsAt w v l := by
  have hlen : (segCells l).length = l.length * 4 := flat_length (f := segC) (n := 4) (fun _ => rfl) l
  have hn : l.length = n := by have := h.1; omega
  rcases h.2 with ⟨rfl, h0⟩ | ⟨g, cap, cur, rfl, _, hg, hc, hm, hs, ht⟩
  · have : l.length = 0 := by omega
    exact ⟨none, 0, by rw [this], by omega, by simp [maxLen], fun hp => by omega⟩
  · refine ⟨some ⟨g, 0, none⟩, cap, by rw [hn], by omega, hm, fun hp => ⟨g, 0, rfl, fun k s hk => ?_⟩⟩
    have hk' := (List.getElem?_eq_some_iff.1 hk).1
    have key : ∀ j, j < 4 → w.cell? ⟨g, 0 + k * 4 + j, none⟩ = (segC s)[j]? := fun j hj => by
      rw [Nat.zero_add, h.cellAt (k * 4 + j) (by omega)]
      exact flat_get (f := segC) (n := 4) (fun _ => rfl) hk hj
    exact ⟨key 0 (by omega), key 1 (by omega), key 2 (by omega), key 3 (by omega)⟩
/-- A row that one owns lies in no block of another type. -/
theorem own_not {base : Nat} {e t : TypeId} {size n P : Nat} {xs : List Value} {cur : Array Value} {fr : Nat × Nat} (h : w.ownsRow base e size v n xs) (hP : w.heap[P]? = some (.cells cur t fr)) (hne : e ≠ t) : some P ≠ v.ownBlock := by
  rcases h.2 with ⟨rfl, _⟩ | ⟨g, cap, cur', rfl, _, hg, _⟩
  · simp [Value.ownBlock]
  · intro e1
    simp only [Value.ownBlock, Option.some.injEq] at e1
    subst e1
    rw [hg] at hP
    cases hP
    exact hne rfl
theorem blk_set {P o : Nat} {xs : Array Value} {t : TypeId} (h : w.heap[P]? = some (.cells xs t (0, 0))) (u : Value) : (w.setCell ⟨P, o, none⟩ u).heap[P]? = some (.cells (xs.setIfInBounds o u) t (0, 0)) := by
  obtain ⟨hlt, hk⟩ := Array.getElem?_eq_some_iff.1 h
  show (w.heap.modify P _)[P]? = _
  rw [Array.getElem?_eq_getElem (by rw [Array.size_modify]; exact hlt), Array.getElem_modify_self, hk]
  simp
theorem blk_other {P Q o : Nat} {xs : Array Value} {t : TypeId} (h : w.heap[P]? = some (.cells xs t (0, 0))) (hne : P ≠ Q) (u : Value) : (w.setCell ⟨Q, o, none⟩ u).heap[P]? = some (.cells xs t (0, 0)) :=
  (Below.heap_setCell w ⟨Q, o, none⟩ u P hne).trans h
theorem box_frozen {B : Nat} {xs : Array Value} {t : TypeId} (h : w.heap[B]? = some (.cells xs t (0, 0))) : ∀ o, w.frozen? ⟨B, o, none⟩ = false := fun o => by simp [World.frozen?, h]
/-- Where a row grows, a block of another type stays. -/
theorem own_grow {base : Nat} {e t : TypeId} {size n P : Nat} {xs : List Value} {cur : Array Value} {fr : Nat × Nat} {o : Obj} (h : w.ownsRow base e size v n xs) (hP : w.heap[P]? = some (.cells cur t fr)) (hne : e ≠ t) (hg : (w.alloc o).grownBy w' v.ownBlock) : w'.heap[P]? = some (.cells cur t fr) := by
  have hlt := (Array.getElem?_eq_some_iff.1 hP).1
  exact (hg.block P (by simp; omega) (own_not h hP hne)).trans ((Below.heap_alloc w o P hlt).trans hP)
theorem own_set {base : Nat} {e : TypeId} {size n : Nat} {xs : List Value} (h : w.ownsRow base e size v n xs) {P o : Nat} (hne : some P ≠ v.ownBlock) (u : Value) : (w.setCell ⟨P, o, none⟩ u).ownsRow base e size v n xs := by
  refine h.kept (row := some P) ⟨rfl, rfl, rfl, by simp [World.setCell], fun k hk hkP => Below.heap_setCell w ⟨P, o, none⟩ u k (fun e => hkP (by rw [e]))⟩ ?_
  cases hv : v.ownBlock with
  | none => left; rfl
  | some g => right; intro e; exact hne (by rw [hv]; exact e.symm)
end
/-- A day with its segments, behind a pointer. -/
structure PlanAt (w : World) (P : Nat) (d : DDay) : Prop where
  blk : ∃ u z v, w.heap[P]? = some (.cells #[.int .i64 d.law.piece, .int .i64 d.law.drive, .int .i64 d.law.spread, .int .i64 d.law.brk, .int .i64 d.law.on, .int .i64 d.law.off, .int .i64 d.law.least, .int .i64 d.law.pieces, u, z, v] 150 (0, 0)) ∧ DayAt w u z d ∧ SegsAt w v (segs d.blocks)
theorem PlanAt.below {w w' : World} {P : Nat} {d : DDay} (h : PlanAt w P d) (hb : Below w.heap.size w w') : PlanAt w' P d := by
  obtain ⟨u, z, v, h1, h2, h3⟩ := h.blk
  exact ⟨u, z, v, (hb.block P (Array.getElem?_eq_some_iff.1 h1).1).trans h1, h2.below hb, h3.below hb⟩
theorem PlanAt.lt {w : World} {P : Nat} {d : DDay} (h : PlanAt w P d) : P < w.heap.size := by
  obtain ⟨u, z, v, h1, h2, h3⟩ := h.blk
  exact (Array.getElem?_eq_some_iff.1 h1).1
def GivesPlan (w : World) (d : DDay) (e : Ending) (w' : World) : Prop := ∃ P, e = .returned (.pointer (some ⟨P, 0, none⟩)) ∧ PlanAt w' P d ∧ w.heap.size ≤ P ∧ Below w.heap.size w w'
theorem info115 : (Tryz.prog.info? 194).map (fun i => (i.zero, i.size, i.bytes)) = some (some (.agg #[.int .i64 0, .int .i64 0, .int .i64 0, .int .i64 0]), 4, 32) := by kernel_rfl

set_option maxRecDepth 100000 in
set_option maxHeartbeats 1600000 in
theorem plan_any (d : DDay) (u z : Value) (w : World) (hd : DayAt w u z d) (hm : Mild d) :
    Calls Tryz.prog 55 #[.agg #[.int .i64 d.law.piece, .int .i64 d.law.drive, .int .i64 d.law.spread, .int .i64 d.law.brk, .int .i64 d.law.on, .int .i64 d.law.off, .int .i64 d.law.least, .int .i64 d.law.pieces, u, z]] w (GivesPlan w d) := by
  obtain ⟨A1, c1, rfl, hc1, hm1⟩ := hd.blocks.form
  obtain ⟨i0, hi0, hz0, hz1, hz2⟩ := info_parts info115
  have hb0 : Below w.heap.size w ((w.alloc (.cells #[.int .i64 d.law.piece, .int .i64 d.law.drive, .int .i64 d.law.spread, .int .i64 d.law.brk, .int .i64 d.law.on, .int .i64 d.law.off, .int .i64 d.law.least, .int .i64 d.law.pieces, .slice A1 d.blocks.length c1, z] 73)).alloc (.cells #[.int .i64 d.law.piece, .int .i64 d.law.drive, .int .i64 d.law.spread, .int .i64 d.law.brk, .int .i64 d.law.on, .int .i64 d.law.off, .int .i64 d.law.least, .int .i64 d.law.pieces, .slice A1 d.blocks.length c1, z, .slice none 0 0] 150)) :=
    ((Below.refl _ _).alloc (Nat.le_refl _) _).alloc (by simp) _
  have hm3 := hm.blocks
  have Hle := Lib.hid (segN_take_le hm.block)
  have Hd := Lib.hid hd
  clear hd
  go_enter Tryz.func55, Tryz.ntmps55
  go_wp2
  go_loopw [13] (fun j wr => ∃ (k : Nat) (v : Value), k ≤ d.blocks.length ∧ j = .int .i64 k ∧ Below w.heap.size w wr ∧ wr.heap[w.heap.size + 1]? = some (.cells #[.int .i64 d.law.piece, .int .i64 d.law.drive, .int .i64 d.law.spread, .int .i64 d.law.brk, .int .i64 d.law.on, .int .i64 d.law.off, .int .i64 d.law.least, .int .i64 d.law.pieces, .slice A1 d.blocks.length c1, z, v] 150 (0, 0)) ∧
    wr.ownsRow w.heap.size 194 4 v (segN (d.blocks.take k)) (segCells (segs (d.blocks.take k)))) (fun j wr => d.blocks.length - (intOf j).toNat)
  case atStart => exact ⟨0, _, by omega, rfl, hb0, by simpa using heap_alloc_new (w.alloc (.cells #[.int .i64 d.law.piece, .int .i64 d.law.drive, .int .i64 d.law.spread, .int .i64 d.law.brk, .int .i64 d.law.on, .int .i64 d.law.off, .int .i64 d.law.least, .int .i64 d.law.pieces, .slice A1 d.blocks.length c1, z] 73)) (.cells #[.int .i64 d.law.piece, .int .i64 d.law.drive, .int .i64 d.law.spread, .int .i64 d.law.brk, .int .i64 d.law.on, .int .i64 d.law.off, .int .i64 d.law.least, .int .i64 d.law.pieces, .slice A1 d.blocks.length c1, z, .slice none 0 0] 150 (0, 0)), World.ownsRow_nil _ _ _ _⟩
  case round =>
    obtain ⟨k, v, hk, rfl, hb, hP, hown⟩ := hrel
    obtain ⟨wo, rfl⟩ : ∃ wo : World, wo = wr := ⟨_, rfl⟩
    have HP := Lib.hid hP
    have Hown := Lib.hid hown
    clear hP hown
    by_cases hlt : k < d.blocks.length
    · obtain ⟨b, o, l, u, rfl, hs, c0, hr, hblt⟩ := Hd.out.blocks.at_ hlt
      obtain ⟨A2, c2, rfl, hc2, hm2⟩ := hr.form
      replace c0 := cell_below hb c0
      have hl := hm.block k l hs
      have hSN := Hle.out k
      have Hst := Lib.hid (segs_take_succ hs)
      have Hsn := Lib.hid (segN_take_succ hs)
      clear hs
      generalize hS : segs (d.blocks.take k) = S at *
      generalize hN : segN (d.blocks.take k) = N at *
      clear hS hN
      go_wp2
      go_loopw [6] (fun j wr => ∃ (i : Nat) (v : Value), i ≤ l.length - 1 ∧ j = .int .i64 ((i : Int) + 1) ∧ Below w.heap.size w wr ∧ wr.heap[w.heap.size + 1]? = some (.cells #[.int .i64 d.law.piece, .int .i64 d.law.drive, .int .i64 d.law.spread, .int .i64 d.law.brk, .int .i64 d.law.on, .int .i64 d.law.off, .int .i64 d.law.least, .int .i64 d.law.pieces, .slice (some ⟨b, o, none⟩) d.blocks.length c1, z, v] 150 (0, 0)) ∧
        wr.ownsRow w.heap.size 194 4 v (N + i) (segCells (S ++ (List.range i).map fun i => (k, i)))) (fun j wr => l.length - (intOf j).toNat)
      case atStart => exact ⟨0, v, by omega, rfl, hb, HP.out, by simpa using Hown.out⟩
      case round =>
        obtain ⟨i, v, hi, rfl, hbr, hP, hown⟩ := hrel
        obtain ⟨wq, rfl⟩ : ∃ wq : World, wq = wr := ⟨_, rfl⟩
        have hqs := hbr.size
        have hPl : w.heap.size + 1 < wq.heap.size := (Array.getElem?_eq_some_iff.1 hP).1
        by_cases hlt2 : i + 1 < l.length
        · have g10 : wq.cell? ⟨w.heap.size + 1, 10, none⟩ = some v := by rw [box_cells hP]; rfl
          have hnot := own_not hown hP (by decide)
          have f10 := box_frozen hP 10
          obtain ⟨AA, cc, rfl⟩ := own_form hown
          have hi1 : (i : Int) + 1 < (l.length : Int) := by omega
          have HP2 := Lib.hid hP
          have Hown2 := Lib.hid hown
          have Hnot := Lib.hid hnot
          clear hP hown hnot
          go_wp2_with (at_builtin; go_loud (refine wpList_append_src _ rfl (.tmp 28) (.tmp 37) 148 rfl w.heap.size 194 i0 _ 4 32 Tryz.underlying148 hi0 hz0 hz1 hz2 rfl (by omega) _ (N + i) _ rfl (Hown2.out.alloc _) (some ⟨wq.heap.size, 0, none⟩) 1 1 (segC (k, i)) rfl (src_new _ _ _ _ _ rfl) (by simp [segC, Value.oneCell']) (by simp [maxLen]; omega) (by omega) (by simp; omega) ?_; intro v1 w1 hown1 hg1 hat1; have HP1 := Lib.hid (own_grow Hown2.out HP2.out (by decide) hg1); have Hg1 := Lib.hid hg1; obtain ⟨AA1, cc1, rfl⟩ := own_form hown1; have Hown1 := Lib.hid hown1; have f1 := box_frozen HP1.out 10; have g1 := box_cells HP1.out 10; clear hown1 hg1 hat1))
          go_roundw
          case rel =>
            have hsz1 : wq.heap.size ≤ w1.heap.size := by have := Hg1.out.size; simp at this; omega
            refine ⟨i + 1, _, by omega, by go_num, ?_, blk_set HP1.out _, ?_⟩
            · exact (((hbr.alloc hqs _).grown Hg1.out (by simp; omega) fun q hq => (Hown2.out.lt q hq).1).setCell (p := ⟨w.heap.size + 1, 10, none⟩) (by simp) _)
            · have := own_set Hown1.out (P := w.heap.size + 1) (o := 10) (own_not Hown1.out HP1.out (by decide)) (.slice AA1 (N + i + 1) cc1)
              rw [List.range_succ, List.map_append, ← List.append_assoc, List.map_cons, List.map_nil, segCells_snoc]
              exact this
          case measure => simp [intOf]; omega
        · obtain rfl : i = l.length - 1 := by omega
          have hi1 : ¬ ((l.length - 1 : Nat) : Int) + 1 < (l.length : Int) := by omega
          have HP2 := Lib.hid hP
          have Hown2 := Lib.hid hown
          clear hP hown
          go_wp2
          go_roundw
          case rel => exact ⟨k + 1, v, by omega, by go_num, hbr, HP2.out, by rw [Hst.out, Hsn.out]; exact Hown2.out⟩
          case measure => simp [intOf]; omega
    · obtain rfl : k = d.blocks.length := by omega
      have hPs := HP.out
      have hown := Hown.out
      rw [List.take_length] at hown
      go_wp2
      go_ret
      refine ⟨_, rfl, ⟨_, _, _, HP.out, Hd.out.below hb, segs_of_own hown⟩, by omega, hb⟩
end Go.Proofs.YtckgapeednokjaaGreat
namespace Go.Proofs.YtckgapeednokjaaGreat
open Go Go.Proofs Go.RowKit

/-! ### duties by bits -/
theorem wrap_u16 (x : Int) : IntKind.u16.wrap x = x % 65536 := by
  simp [IntKind.wrap, IntKind.signed, IntKind.bits]
theorem ofInt16 {a : Nat} (ha : a < 65536) : (BitVec.ofInt 16 (a : Int)).toNat = a := by
  rw [BitVec.ofInt_natCast, BitVec.toNat_ofNat]; exact Nat.mod_eq_of_lt (by omega)
theorem bits_and_u16 (a b : Nat) (ha : a < 65536) (hb : b < 65536) : bits .and .u16 (a : Int) (b : Int) = ((a &&& b : Nat) : Int) := by
  have hx : a &&& b < 2 ^ 16 := Nat.and_lt_two_pow _ (by omega)
  show IntKind.u16.wrap ((BitVec.ofInt 16 (a : Int) &&& BitVec.ofInt 16 (b : Int)).toNat : Int) = _
  rw [BitVec.toNat_and, ofInt16 ha, ofInt16 hb, wrap_u16]
  omega
theorem bits_or_u16 (a b : Nat) (ha : a < 65536) (hb : b < 65536) : bits .or .u16 (a : Int) (b : Int) = ((a ||| b : Nat) : Int) := by
  have hx : a ||| b < 2 ^ 16 := Nat.or_lt_two_pow (by omega) (by omega)
  show IntKind.u16.wrap ((BitVec.ofInt 16 (a : Int) ||| BitVec.ofInt 16 (b : Int)).toNat : Int) = _
  rw [BitVec.toNat_or, ofInt16 ha, ofInt16 hb, wrap_u16]
  omega
theorem bits_xor_u16 (a b : Nat) (ha : a < 65536) (hb : b < 65536) : bits .xor .u16 (a : Int) (b : Int) = ((a ^^^ b : Nat) : Int) := by
  have hx : a ^^^ b < 2 ^ 16 := Nat.xor_lt_two_pow (by omega) (by omega)
  show IntKind.u16.wrap ((BitVec.ofInt 16 (a : Int) ^^^ BitVec.ofInt 16 (b : Int)).toNat : Int) = _
  rw [BitVec.toNat_xor, ofInt16 ha, ofInt16 hb, wrap_u16]
  omega
theorem two_pow_16 {n : Nat} (h : n ≤ 15) : (2 : Nat) ^ n < 65536 := by
  have : (2 : Nat) ^ n ≤ 2 ^ 15 := Nat.pow_le_pow_right (by omega) h
  omega
theorem has_bit (x n : Nat) (hx : x < 65536) : (bits BinOp.and IntKind.u16 ((x : Int) / 2 ^ n) 1 == 1) = x.testBit n := by
  have e1 : ((x : Int) / 2 ^ n) = ((x / 2 ^ n : Nat) : Int) := by push_cast; rfl
  have h1 : x / 2 ^ n < 65536 := Nat.lt_of_le_of_lt (Nat.div_le_self _ _) hx
  rw [e1, show (1 : Int) = ((1 : Nat) : Int) from rfl, bits_and_u16 _ _ h1 (by omega), Nat.and_one_is_mod, Nat.testBit_eq_decide_div_mod_eq]
  rw [Bool.eq_iff_iff]
  simp only [beq_iff_eq, decide_eq_true_eq]
  omega
theorem same_bool {w : World} {a b : Bool} (h : a = b) : Same w (.bool b) (.returned (.bool a)) w := ⟨by rw [h], rfl⟩
theorem has_same (x n : Nat) (w : World) (hx : x < 65536) (hn : n ≤ 15) : Calls Tryz.prog 100 #[.int .u16 (x : Int), .int .i64 (n : Int)] w (Same w (.bool (x.testBit n))) := by
  have Hh := Lib.hid (has_bit x n hx)
  go_enter Tryz.func100, Tryz.ntmps100
  go_wp2
  go_ret
  exact same_bool Hh.out
/-- A list of segments is in memory as a row that one owns. -/
def natsI (l : List Nat) : List Int := l.map fun (n : Nat) => (n : Int)
def GivesOwn (w : World) (l : List Int) (e : Ending) (w' : World) : Prop := ∃ A c, e = .returned (.slice A l.length c) ∧ w'.ownsRow w.heap.size 3 1 (.slice A l.length c) l.length (l.map (.int .i64)) ∧ Below w.heap.size w w'
theorem infoI : (Tryz.prog.info? 3).map (fun i => (i.zero, i.size, i.bytes)) = some (some (.int .i64 0), 1, 8) := by kernel_rfl
theorem bitsL_succ (k x : Nat) : bitsL (k + 1) x = bitsL k x ++ if x.testBit k then [k] else [] := by
  unfold bitsL
  rw [List.range_succ, List.filter_append]
  cases h : x.testBit k <;> simp [h]
theorem bitsL_len (k x : Nat) : (bitsL k x).length ≤ k := by
  unfold bitsL
  exact Nat.le_trans (List.length_filter_le _ _) (by simp)
set_option maxRecDepth 100000 in
theorem list_any (x : Nat) (w : World) (hx : x < 65536) : Calls Tryz.prog 58 #[.int .u16 (x : Int)] w (GivesOwn w (natsI (bitsL 10 x))) := by
  obtain ⟨i0, hi0, hz0, hz1, hz2⟩ := info_parts infoI
  go_enter Tryz.func58, Tryz.ntmps58
  go_wp2
  go_loopw [2, 4] (fun v j wr => ∃ (k : Nat) (A : Option Addr) (c : Nat), k ≤ 10 ∧ j = .int .i64 k ∧ v = .slice A (bitsL k x).length c ∧ Below w.heap.size w wr ∧ wr.ownsRow w.heap.size 3 1 v (bitsL k x).length ((natsI (bitsL k x)).map (.int .i64))) (fun v j wr => 10 - (intOf j).toNat)
  case atStart => exact ⟨0, none, 0, by omega, rfl, rfl, Below.refl _ _, by simpa [natsI, bitsL] using World.ownsRow_nil w w.heap.size 3 1⟩
  case round =>
    obtain ⟨k, A, c, hk, rfl, rfl, hb, hown⟩ := hrel
    obtain ⟨wq, rfl⟩ : ∃ wq : World, wq = wr := ⟨_, rfl⟩
    have hle := bitsL_len k x
    have hqs := hb.size
    by_cases hlt : k < 10
    · have Hl := Lib.hid (bitsL_succ k x)
      have Hh := Lib.hid (has_same x k wq hx (by omega))
      generalize bitsL k x = S at *
      cases h1 : x.testBit k with
      | true =>
        rw [h1] at Hh Hl
        have Hown := Lib.hid hown
        clear hown h1
        go_wp2_with (first
          | (go_at_call 100; refine Hh.out.mono ?_; rintro e w1 ⟨rfl, rfl⟩)
          | (at_builtin; go_loud (refine wpList_append_src _ rfl (.tmp 10) (.tmp 12) 29 rfl w.heap.size 3 i0 _ 1 8 Tryz.underlying29 hi0 hz0 hz1 hz2 rfl (by omega) _ S.length _ rfl (Hown.out.alloc _) (some ⟨wq.heap.size, 0, none⟩) 1 1 [.int .i64 (k : Int)] rfl (src_new _ _ _ _ _ rfl) (by simp [Value.oneCell']) (by simp [maxLen]; omega) (by omega) (by simp; omega) ?_; intro v1 w2 hown1 hg1 hat1; have Hg1 := Lib.hid hg1; obtain ⟨AA1, cc1, rfl⟩ := own_form hown1; have Hown1 := Lib.hid hown1; clear hown1 hg1 hat1)))
        go_roundw
        case rel =>
          refine ⟨k + 1, AA1, cc1, by omega, by go_num, ?_, (hb.alloc hqs _).grown Hg1.out (by simp; omega) fun q hq => (Hown.out.lt q hq).1, ?_⟩
          · rw [Hl.out]; simp
          · rw [Hl.out]
            have := Hown1.out
            simpa [natsI] using this
        case measure => simp [intOf]; omega
      | false =>
        rw [h1] at Hh Hl
        have Hown := Lib.hid hown
        clear hown h1
        go_wp2_with (go_at_call 100; refine Hh.out.mono ?_; rintro e w1 ⟨rfl, rfl⟩)
        go_roundw
        case rel => exact ⟨k + 1, A, c, by omega, by go_num, by rw [Hl.out]; simp, hb, by rw [Hl.out]; simpa using Hown.out⟩
        case measure => simp [intOf]; omega
    · obtain rfl : k = 10 := by omega
      have Hown := Lib.hid hown
      clear hown
      go_wp2
      go_ret
      have e : (natsI (bitsL 10 x)).length = (bitsL 10 x).length := by simp [natsI]
      exact ⟨A, c, (by rw [e] : Ending.returned (.slice A (bitsL 10 x).length c) = Ending.returned (.slice A (natsI (bitsL 10 x)).length c)), by rw [e]; exact Hown.out, hb⟩
theorem every_num {n : Nat} (hn : n ≤ 15) : IntKind.u16.wrap (IntKind.u16.wrap (2 ^ n) - 1) = (fullM n : Int) := by
  have h1 := two_pow_16 hn
  have h2 := Nat.two_pow_pos n
  have e : ((2 : Int) ^ n) = ((2 ^ n : Nat) : Int) := by push_cast; rfl
  rw [e, wrap_u16, wrap_u16]
  unfold fullM
  omega
theorem every_same (P : Nat) (d : DDay) (w : World) (hp : PlanAt w P d) (hn : segN d.blocks ≤ 15) : Calls Tryz.prog 57 #[.pointer (some ⟨P, 0, none⟩)] w (Same w (.int .u16 (fullM (segN d.blocks) : Int))) := by
  obtain ⟨u, z, v, h1, h2, h3⟩ := hp.blk
  obtain ⟨A, c, rfl, hc, hm⟩ := h3.form
  rw [segs_length] at *
  have g := box_cells h1
  have hlt := (Array.getElem?_eq_some_iff.1 h1).1
  have g10 := g 10
  simp only [List.size_toArray, List.length_cons, List.length_nil, Nat.reduceAdd, Nat.reduceLT, List.getElem?_toArray, List.getElem?_cons_succ, List.getElem?_cons_zero] at g10
  clear g h1 h2 h3
  have He := Lib.hid (every_num hn)
  go_enter Tryz.func57, Tryz.ntmps57
  go_wp2
  go_ret
  exact same_int He.out
end Go.Proofs.YtckgapeednokjaaGreat
namespace Go.Proofs.YtckgapeednokjaaGreat
open Go Go.Proofs Go.RowKit

/-! ### A day with its segments, cell by cell -/
theorem PlanAt.cells {w : World} {P : Nat} {d : DDay} (h : PlanAt w P d) : ∃ (A1 A2 A3 : Option Addr) (c1 c2 c3 : Nat),
    (w.cell? ⟨P, 0, none⟩ = some (.int .i64 d.law.piece) ∧ w.cell? ⟨P, 1, none⟩ = some (.int .i64 d.law.drive) ∧ w.cell? ⟨P, 2, none⟩ = some (.int .i64 d.law.spread) ∧ w.cell? ⟨P, 3, none⟩ = some (.int .i64 d.law.brk) ∧
      w.cell? ⟨P, 4, none⟩ = some (.int .i64 d.law.on) ∧ w.cell? ⟨P, 5, none⟩ = some (.int .i64 d.law.off) ∧ w.cell? ⟨P, 6, none⟩ = some (.int .i64 d.law.least) ∧ w.cell? ⟨P, 7, none⟩ = some (.int .i64 d.law.pieces)) ∧
    w.cell? ⟨P, 8, none⟩ = some (.slice A1 d.blocks.length c1) ∧ w.cell? ⟨P, 9, none⟩ = some (.slice A2 d.walk.length c2) ∧ w.cell? ⟨P, 10, none⟩ = some (.slice A3 (segN d.blocks) c3) ∧
    BlocksAt w (.slice A1 d.blocks.length c1) d.blocks ∧ RowsAt w (.slice A2 d.walk.length c2) d.walk ∧ SegsAt w (.slice A3 (segN d.blocks) c3) (segs d.blocks) ∧ c3 ≤ 9223372036854775807 := by
  obtain ⟨u, z, v, h1, h2, h3⟩ := h.blk
  obtain ⟨A1, c1, rfl, _, _⟩ := h2.blocks.form
  obtain ⟨A2, c2, rfl, _, _⟩ := h2.walk.form
  obtain ⟨A3, c3, e, _, hm⟩ := h3.form
  subst e
  rw [segs_length] at *
  have g := box_cells h1
  exact ⟨A1, A2, A3, c1, c2, c3, ⟨by rw [g]; rfl, by rw [g]; rfl, by rw [g]; rfl, by rw [g]; rfl, by rw [g]; rfl, by rw [g]; rfl, by rw [g]; rfl, by rw [g]; rfl⟩, by rw [g]; rfl, by rw [g]; rfl, by rw [g]; rfl, h2.blocks, h2.walk, h3, hm⟩
/-- A relief that there is. -/
def InDay (d : DDay) (b i : Nat) : Prop := b < d.blocks.length ∧ i < (d.blocks[b]?.getD []).length
theorem rel_cells {w : World} {A : Option Addr} {n c : Nat} {d : DDay} (h : BlocksAt w (.slice A n c) d.blocks) {b i : Nat} (hi : InDay d b i) : ∃ B o B' o' m c', A = some ⟨B, o, none⟩ ∧ w.cell? ⟨B, o + b, none⟩ = some (.slice (some ⟨B', o', none⟩) m c') ∧ i < m ∧ B < w.heap.size ∧ B' < w.heap.size ∧
    w.cell? ⟨B', o' + i * 3, none⟩ = some (.int .i64 (relAt d.blocks b i).place) ∧ w.cell? ⟨B', o' + i * 3 + 1, none⟩ = some (.int .i64 (loT d.blocks b i)) ∧ w.cell? ⟨B', o' + i * 3 + 2, none⟩ = some (.int .i64 (hiT d.blocks b i)) := by
  obtain ⟨hb, hi⟩ := hi
  obtain ⟨B, o, l, u, rfl, hl, c0, hr, hB⟩ := h.at_ hb
  rw [hl, Option.getD_some] at hi
  obtain ⟨A2, c2, rfl, _, _⟩ := hr.form
  obtain ⟨B', o', r, rfl, hrr, d0, d1, d2, hB'⟩ := hr.at_ hi
  have e : relAt d.blocks b i = r := by unfold relAt; rw [hl, Option.getD_some, hrr]; rfl
  unfold loT hiT
  rw [e]
  exact ⟨B, o, B', o', _, _, rfl, c0, hi, hB, hB', d0, d1, d2⟩
set_option maxRecDepth 100000 in
theorem place_any (P b i : Nat) (d : DDay) (w : World) (hp : PlanAt w P d) (hi : InDay d b i) :
    Calls Tryz.prog 105 #[.pointer (some ⟨P, 0, none⟩), .agg #[.int .i64 (b : Int), .int .i64 (i : Int)]] w (Gives w (.int .i64 (relAt d.blocks b i).place)) := by
  obtain ⟨A1, A2, A3, c1, c2, c3, _, g8, _, _, hbl, _, _, _⟩ := hp.cells
  obtain ⟨B, o, B', o', m, c', rfl, k0, him, hB, hB', k1, _, _⟩ := rel_cells hbl hi
  have hP := hp.lt
  have hbI : (b : Int) < (d.blocks.length : Int) := by have := hi.1; omega
  have hiI : (i : Int) < (m : Int) := by omega
  clear hi hp hbl
  go_enter Tryz.func105, Tryz.ntmps105
  go_wp2
  go_quiet (fail)
  go_wp2
  go_ret
  exact ⟨rfl, drewN_below ((Below.refl _ _).alloc (Nat.le_refl _) _) _⟩
set_option maxRecDepth 100000 in
theorem lo_any (P Q b i : Nat) (d : DDay) (w : World) (hp : PlanAt w P d) (hq : w.cell? ⟨Q, 0, none⟩ = some (.pointer (some ⟨P, 0, none⟩))) (hi : InDay d b i) :
    Calls Tryz.prog 150 #[.agg #[.int .i64 (b : Int), .int .i64 (i : Int)], .pointer (some ⟨Q, 0, none⟩)] w (Gives w (.int .i64 (loT d.blocks b i))) := by
  obtain ⟨A1, A2, A3, c1, c2, c3, _, g8, _, _, hbl, _, _, _⟩ := hp.cells
  obtain ⟨B, o, B', o', m, c', rfl, k0, him, hB, hB', _, k1, _⟩ := rel_cells hbl hi
  have hP := hp.lt
  have hQ := World.block_lt_of_cell? _ _ hq
  have hbI : (b : Int) < (d.blocks.length : Int) := by have := hi.1; omega
  have hiI : (i : Int) < (m : Int) := by omega
  clear hi hp hbl
  go_enter Tryz.func150, Tryz.ntmps150
  go_wp2
  go_quiet (fail)
  go_wp2
  go_ret
  exact ⟨rfl, drewN_below ((Below.refl _ _).alloc (Nat.le_refl _) _) _⟩
set_option maxRecDepth 100000 in
theorem hi_any (P Q b i : Nat) (d : DDay) (w : World) (hp : PlanAt w P d) (hq : w.cell? ⟨Q, 0, none⟩ = some (.pointer (some ⟨P, 0, none⟩))) (hi : InDay d b i) :
    Calls Tryz.prog 151 #[.agg #[.int .i64 (b : Int), .int .i64 (i : Int)], .pointer (some ⟨Q, 0, none⟩)] w (Gives w (.int .i64 (hiT d.blocks b i))) := by
  obtain ⟨A1, A2, A3, c1, c2, c3, _, g8, _, _, hbl, _, _, _⟩ := hp.cells
  obtain ⟨B, o, B', o', m, c', rfl, k0, him, hB, hB', _, _, k1⟩ := rel_cells hbl hi
  have hP := hp.lt
  have hQ := World.block_lt_of_cell? _ _ hq
  have hbI : (b : Int) < (d.blocks.length : Int) := by have := hi.1; omega
  have hiI : (i : Int) < (m : Int) := by omega
  clear hi hp hbl
  go_enter Tryz.func151, Tryz.ntmps151
  go_wp2
  go_quiet (fail)
  go_wp2
  go_ret
  exact ⟨rfl, drewN_below ((Below.refl _ _).alloc (Nat.le_refl _) _) _⟩
/-- A function value that tells the times t of a day's reliefs, from the world w on. -/
def Tells (w : World) (d : DDay) (v : Value) (t : Nat → Nat → Int) : Prop := ∀ (W : World) (b i : Nat), Below w.heap.size w W → InDay d b i → CallsVal Tryz.prog v #[.agg #[.int .i64 (b : Int), .int .i64 (i : Int)]] W (Gives W (.int .i64 (t b i)))
theorem Tells.below {w w' : World} {d : DDay} {v : Value} {t : Nat → Nat → Int} (h : Tells w d v t) (hb : Below w.heap.size w w') : Tells w' d v t := fun W b i hW hi => h W b i (hb.trans (hW.mono hb.size)) hi
def GivesWorst (w : World) (d : DDay) (e : Ending) (w' : World) : Prop := ∃ (fu fv : Fn) (au av cu cv : Array Value), e = .returned (.agg #[.func fu au cu, .func fv av cv]) ∧ Tells w' d (.func fu au cu) (loT d.blocks) ∧ Tells w' d (.func fv av cv) (hiT d.blocks) ∧ Below w.heap.size w w'
set_option maxRecDepth 100000 in
theorem worst_any (P : Nat) (d : DDay) (w : World) (hp : PlanAt w P d) :
    Calls Tryz.prog 102 #[.pointer (some ⟨P, 0, none⟩)] w (GivesWorst w d) := by
  have Hp := Lib.hid hp
  clear hp
  go_enter Tryz.func102, Tryz.ntmps102
  go_wp2
  have hb : Below w.heap.size w (((w.alloc (.cells #[.pointer (some ⟨P, 0, none⟩)] 136)).alloc (.cells #[.func (.func 150) #[] #[.pointer (some ⟨w.heap.size, 0, none⟩)], .func (.func 151) #[] #[.pointer (some ⟨w.heap.size, 0, none⟩)]] 161)).alloc
      (.cells #[.func (.func 150) #[] #[.pointer (some ⟨w.heap.size, 0, none⟩)], .func (.func 151) #[] #[.pointer (some ⟨w.heap.size, 0, none⟩)]] 250)) :=
    (((Below.refl _ _).alloc (Nat.le_refl _) _).alloc (by simp) _).alloc (by simp; omega) _
  refine bodyPost_ret (v := .agg #[.func (.func 150) #[] #[.pointer (some ⟨w.heap.size, 0, none⟩)], .func (.func 151) #[] #[.pointer (some ⟨w.heap.size, 0, none⟩)]]) (by simp [results, Tryz.results102, go_sem]) rfl ⟨_, _, _, _, _, _, rfl, fun W b i hW hi => ?_, fun W b i hW hi => ?_, hb⟩
  · have hW' := hb.trans (hW.mono hb.size)
    exact ⟨150, _, by kernel_rfl, lo_any P w.heap.size b i d W (Hp.out.below hW') (cell_below hW (by simp [go_sem])) hi⟩
  · have hW' := hb.trans (hW.mono hb.size)
    exact ⟨151, _, by kernel_rfl, hi_any P w.heap.size b i d W (Hp.out.below hW') (cell_below hW (by simp [go_sem])) hi⟩
end Go.Proofs.YtckgapeednokjaaGreat
