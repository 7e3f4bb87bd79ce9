import Derived.Test.YtmbkpfkkohpnkaaProg
import Derived.Test.YtmbkpfkkohpnkaaPd
import Derived.Laws.EntriesVeiled
import Derived.WalkKit
import Derived.Below
import Derived.Lib.Hide
import Derived.Laws.OwnMore
import Derived.Deep.AppendLies
import Derived.Deep.Draws
import Derived.BigQuiet
import Derived.Deep.QuietTactic
import Derived.KernelRfl
import Derived.WalkSpells
import Derived.WalkLawsBesides
import Derived.Outline
import Derived.Maps.AppendAt
import Derived.OwnWalk
import Derived.Deep.RegionHeld3
import Derived.StillTail
set_option linter.unusedVariables false
set_option linter.unusedSimpArgs false
namespace Go.Proofs.Ytmbkpfkkohpnkaa
open Go.RowKit

/-- A slice of numbers of kind K that reads as l. -/
def NumsAt (K : IntKind) (w : World) (v : Value) (l : List Int) : Prop :=
  ∃ A c, v = .slice A l.length c ∧ l.length ≤ c ∧ c ≤ maxLen ∧
    (0 < l.length → ∃ b o, A = some ⟨b, o, none⟩ ∧ ∀ k, k < l.length → w.cell? ⟨b, o + k, none⟩ = some (.int K (l[k]?.getD 0)))

/-- A slice of slices of ints. -/
def RowsAt (w : World) (v : Value) (ll : List (List Int)) : Prop :=
  ∃ A c, v = .slice A ll.length c ∧ ll.length ≤ c ∧ c ≤ maxLen ∧
    (0 < ll.length → ∃ b o, A = some ⟨b, o, none⟩ ∧ ∀ k, k < ll.length → ∃ u, w.cell? ⟨b, o + k, none⟩ = some u ∧ NumsAt .i64 w u (ll[k]?.getD []))

section
variable {w w' : World} {v : Value}
theorem cell_below (hb : Below w.heap.size w w') {p : Addr} {x : Value} (h : w.cell? p = some x) : w'.cell? p = some x :=
  (hb.cell (World.block_lt_of_cell? w p h)).trans h

theorem NumsAt.below {K : IntKind} {l : List Int} (h : NumsAt K w v l) (hb : Below w.heap.size w w') : NumsAt K w' v l := by
  obtain ⟨A, c, rfl, h1, h2, h3⟩ := h
  refine ⟨A, c, rfl, h1, h2, fun hp => ?_⟩
  obtain ⟨b, o, e, hc⟩ := h3 hp
  exact ⟨b, o, e, fun k hk => cell_below hb (hc k hk)⟩

theorem RowsAt.below {ll : List (List Int)} (h : RowsAt w v ll) (hb : Below w.heap.size w w') : RowsAt w' v ll := by
  obtain ⟨A, c, rfl, h1, h2, h3⟩ := h
  refine ⟨A, c, rfl, h1, h2, fun hp => ?_⟩
  obtain ⟨b, o, e, hc⟩ := h3 hp
  refine ⟨b, o, e, fun k hk => ?_⟩
  obtain ⟨u, hu, hn⟩ := hc k hk
  exact ⟨u, cell_below hb hu, hn.below hb⟩

end

/-- The call hands back v and has changed nothing that was there. -/
def Gives (w : World) (v : Value) (e : Ending) (w' : World) : Prop := e = .returned v ∧ Below w.heap.size w w'

/-- The call hands back v and leaves the world alone. -/
def Same (w : World) (v : Value) (e : Ending) (w' : World) : Prop := e = .returned v ∧ w = w'
theorem Same.gives {P : Program} {f : FuncId} {args : Array Value} {w : World} {v : Value} (h : Calls P f args w (Same w v)) : Calls P f args w (Gives w v) :=
  h.mono fun _ _ ⟨he, hw⟩ => ⟨he, hw ▸ Below.refl _ _⟩
theorem Same.to {P : Program} {f : FuncId} {args : Array Value} {w W : World} {a b : Bool} (e : a = b) (h : Calls P f args w (Same W (.bool a))) : Calls P f args w (Same W (.bool b)) := by
  rw [← e]; exact h
theorem same_int {w : World} {K : IntKind} {a b : Int} (h : a = b) : Same w (.int K b) (.returned (.int K a)) w := ⟨by rw [h], rfl⟩
theorem gives_bool {w w' : World} {a b : Bool} (h : a = b) (hb : Below w.heap.size w w') : Gives w (.bool b) (.returned (.bool a)) w' := ⟨by rw [h], hb⟩
theorem gives_int {w w' : World} {K : IntKind} {a b : Int} (h : a = b) (hb : Below w.heap.size w w') : Gives w (.int K b) (.returned (.int K a)) w' := ⟨by rw [h], hb⟩

theorem all_of {α : Type} {l : List α} {p : α → Bool} (h : ∀ (j : Nat) (s : α), j < l.length → l[j]? = some s → p s = true) : l.all p = true := by
  rw [List.all_eq_true]
  intro x hx
  obtain ⟨j, hj, rfl⟩ := List.getElem_of_mem hx
  exact h j _ hj (List.getElem?_eq_getElem hj)

theorem not_all_of {α : Type} {l : List α} {p : α → Bool} {j : Nat} {s : α} (h : l[j]? = some s) (hs : p s = false) : l.all p = false := by
  rw [List.all_eq_false]
  exact ⟨s, List.mem_of_getElem? h, by simp [hs]⟩

/-- A world that has come out of w by new blocks alone. -/
def Later (w : World) : Type := { x : World // Below w.heap.size w x }

instance later_nonempty (w : World) : Nonempty (Later w) := ⟨⟨w, Below.refl _ _⟩⟩

theorem wp_region_later {P : Program} {id : Nat} {Q : Exit → Act → World → Prop} {a : Act} {w : World} {l : List Oper} (hm : P.follows .mixedOrders = true) (hB : Region.lexB .any l.toArray = true)
    (h : wpQuiet P l.toArray (fun w' => ∃ x : Later w, w' = x.val) (fun a' => ∀ w', (∃ x : Later w, w' = x.val) → Q .normal a' w') l a) : (Code.region id l.toArray true).wp P Q a w :=
  wp_region_quiet (C := fun w' => ∃ x : Later w, w' = x.val) hm hB ⟨⟨w.drew, (Below.refl _ _).drew⟩, rfl⟩ (by simpa using h)

theorem Later.call {P : Program} {f : FuncId} {args : Array Value} {w : World} {x : Later w} {v : Value} (h : Calls P f args x.val (Gives x.val v)) :
    Calls P f args x.val fun e w'' => e = .returned v ∧ ∃ y : Later w, w'' = y.val :=
  h.mono fun _ w'' ⟨he, hb⟩ => ⟨he, ⟨w'', x.property.trans (hb.mono x.property.size)⟩, rfl⟩

theorem Later.cell {w : World} {p : Addr} {u : Value} (h : w.cell? p = some u) (x : Later w) : x.val.cell? p = some u := cell_below x.property h

/-- A call of a function value. -/
def CallsVal (P : Program) (f : Value) (args : Array Value) (w : World) (R : Ending → World → Prop) : Prop :=
  ∃ g az, (do let d ← Deferred.ofValue f args; invoke d.target d.args).run P w = .ok (.enter g az) w ∧ Calls P g az w R

theorem wpList_callv {P : Program} {w : World} {ops : Array Oper} {rest : List Oper} {o : Oper} {a : Act} {Q : Exit → Act → World → Prop} (x : Operand) (args : List Operand) (tys : Array TypeId) (hg : o.guard = none)
    (ho : o.op = .call { callee := .value x, args := args.toArray, argTypes := tys }) (f : Value) (hf : a.eval x = f) (az : List Value) (has : args.map a.eval = az) (v : Value)
    (hcall : CallsVal P f az.toArray w (Gives w v)) (hK : ∀ w', Below w.heap.size w w' → wpList P ops Q rest (a.put o.dst v) w') : wpList P ops Q (o :: rest) a w := by
  refine wpList_plain hg fun K hK' => ?_
  obtain ⟨g, az', hrun, hc⟩ := hcall
  unfold Oper.wp execOp
  simp only [ho, resolve, hf, List.map_toArray, has]
  simp only [Sem.run_bind] at hrun ⊢
  rw [hrun]
  simp only [Oper.upon_enter]
  refine hc.mono ?_
  rintro e w' ⟨rfl, hb⟩
  exact hK' _ _ (hK w' hb)

def ixOf {α : Type} (p : α → Bool) (l : List α) : Int := match l.findIdx? p with
  | some k => k
  | none => -1

theorem ixOf_hit {α : Type} {p : α → Bool} {l : List α} {k : Nat} {x : α} (hall : ∀ (j : Nat) (x : α), j < k → l[j]? = some x → p x = false) (hx : l[k]? = some x) (hp : p x = true) : ixOf p l = k := by
  unfold ixOf
  obtain ⟨hk, rfl⟩ := List.getElem?_eq_some_iff.1 hx
  have : l.findIdx? p = some k := by
    rw [List.findIdx?_eq_some_iff_getElem]
    exact ⟨hk, hp, fun j hj => by simp [hall j l[j] hj (List.getElem?_eq_getElem (by omega))]⟩
  rw [this]

theorem ixOf_none {α : Type} {p : α → Bool} {l : List α} (hall : ∀ (j : Nat) (x : α), j < l.length → l[j]? = some x → p x = false) : ixOf p l = -1 := by
  unfold ixOf
  have : l.findIdx? p = none := by
    rw [List.findIdx?_eq_none_iff]
    intro x hx
    obtain ⟨j, hj, rfl⟩ := List.getElem_of_mem hx
    exact hall j _ hj (List.getElem?_eq_getElem hj)
  rw [this]

theorem ixOf_any {α : Type} (p : α → Bool) (l : List α) : decide (0 ≤ ixOf p l) = l.any p := by
  unfold ixOf
  cases h : l.findIdx? p with
  | none =>
    rw [List.findIdx?_eq_none_iff] at h
    have e : l.any p = false := by
      rw [List.any_eq_false]
      intro x hx
      simp [h x hx]
    rw [e]
    rfl
  | some k =>
    obtain ⟨hk, hp, _⟩ := List.findIdx?_eq_some_iff_getElem.1 h
    rw [List.any_eq_true.2 ⟨l[k], List.getElem_mem hk, hp⟩]
    simp

theorem any_not {α : Type} (p : α → Bool) (l : List α) : (!(l.any fun x => !p x)) = l.all p := by
  induction l with
  | nil => rfl
  | cons a l ih => simp [List.any_cons, List.all_cons, ← ih]

theorem wp_name {P : Program} {c : Code} {Q : Exit → Act → World → Prop} {a : Act} {w : World} (F : World → Prop) (h : F w) (hk : ∀ W, F W → c.wp P Q a W) : c.wp P Q a w := hk w h

def sumL : List Int → Int
  | [] => 0
  | a :: l => a + sumL l

theorem sumL_append (a b : List Int) : sumL (a ++ b) = sumL a + sumL b := by
  induction a with
  | nil => simp [sumL]
  | cons x a ih => simp [sumL, ih]; omega

theorem sumL_take {l : List Int} {k : Nat} {x : Int} (h : l[k]? = some x) : sumL (l.take (k + 1)) = sumL (l.take k) + x := by
  obtain ⟨hk, rfl⟩ := List.getElem?_eq_some_iff.1 h
  rw [List.take_succ_eq_append_getElem hk, sumL_append]
  simp [sumL]

/-- All partial sums are far from the ends of int. -/
def SumOk (l : List Int) : Prop := ∀ k, k ≤ l.length → -4611686018427387904 ≤ sumL (l.take k) ∧ sumL (l.take k) ≤ 4611686018427387904

theorem sumL_bound {l : List Int} {M : Int} (hM : 0 ≤ M) (h : ∀ x ∈ l, 0 ≤ x ∧ x ≤ M) : 0 ≤ sumL l ∧ sumL l ≤ l.length * M := by
  induction l with
  | nil => simp [sumL]
  | cons a l ih =>
    have h1 := h a (by simp)
    have h2 := ih fun x hx => h x (by simp [hx])
    simp only [sumL, List.length_cons, Int.natCast_add, Int.add_mul]
    omega

theorem sumOk_of {l : List Int} (hn : l.length ≤ 1000) (h : ∀ x ∈ l, 0 ≤ x ∧ x ≤ 100000000000) : SumOk l := by
  intro k hk
  have h1 := sumL_bound (l := l.take k) (M := 100000000000) (by omega) fun x hx => h x (List.mem_of_mem_take hx)
  have h2 : (l.take k).length ≤ 1000 := by simp; omega
  omega

/-- A contract's Bool, known. -/
theorem Gives.to {P : Program} {f : FuncId} {args : Array Value} {w W : World} {a b : Bool} (e : a = b) (h : Calls P f args w (Gives W (.bool a))) : Calls P f args w (Gives W (.bool b)) := by
  rw [← e]; exact h
end Go.Proofs.Ytmbkpfkkohpnkaa
namespace Go.Proofs.Ytmbkpfkkohpnkaa
open Go Go.RowKit

/-- What a slice value hands to an append: so many cells, from its head on. -/
def Src (w : World) (A : Option Addr) (m size : Nat) (news : List Value) : Prop :=
  news.length = m * size ∧ (0 < m → ∃ ad, A = some ad ∧ ∀ j u, news[j]? = some u → w.cell? (ad.add j) = some u)

section
variable {P : Program} (w : World)
theorem run_append_nil0 (base : Nat) (t ty e : TypeId) (i : TypeInfo) (size : Nat) (ht : P.underlying t = some (.slice e)) (hi : P.info? e = some i)
    (v : Value) (n : Nat) (xs : List Value) (hown : w.ownsRow base e size v n xs) (c : Nat) : (Builtin.append_ #[t, t] ty #[v, .slice none 0 c]).run P w = .ok v w := by
  rcases hown.2 with ⟨rfl, rfl⟩ | ⟨g, cap, cur, rfl, _, _, hnc, _⟩
  · simp [Builtin.append_, run_underlying ht, sizeOf, typeInfo, hi, Builtin.lenOf, Builtin.firstCells]
  · simp [Builtin.append_, run_underlying ht, sizeOf, typeInfo, hi, Builtin.lenOf, Builtin.firstCells, hnc, storeCells]

theorem run_append_src (base : Nat) (t ty e : TypeId) (i : TypeInfo) (z : Value) (size bytes : Nat) (ht : P.underlying t = some (.slice e)) (hi : P.info? e = some i) (hz : i.zero = some z)
    (hsize : i.size = size) (hby : i.bytes = bytes) (hzs : z.cells.size = size) (hsz : 0 < size)
    (v : Value) (n : Nat) (xs : List Value) (hown : w.ownsRow base e size v n xs)
    (A : Option Addr) (m c : Nat) (news : List Value) (hr : Src w A m size news) (h1 : ∀ u ∈ news, u.oneCell' = true)
    (h63 : n + m ≤ maxLen) (hbytes : (n + m) * bytes ≤ 140737488355328) (hbase : base ≤ w.heap.size) :
    ∃ v' w', (Builtin.append_ #[t, t] ty #[v, .slice A m c]).run P w = .ok v' w' ∧ w'.ownsRow base e size v' (n + m) (xs ++ news) ∧ w.grownBy w' v.ownBlock ∧
      (v'.ownBlock = v.ownBlock ∨ v'.ownBlock = some w.heap.size) := by
  have hemp : m = 0 → news = [] := fun h => List.eq_nil_of_length_eq_zero (by rw [hr.1, h]; simp)
  rcases A with _ | ad
  · have hm : m = 0 := by
      rcases Nat.eq_zero_or_pos m with h0 | h0
      · exact h0
      · obtain ⟨ad, h, _⟩ := hr.2 h0
        cases h
    have hn := hemp hm
    subst hm
    subst hn
    exact ⟨v, w, run_append_nil0 w base t ty e i size ht hi v n xs hown c, by simpa using hown, World.grownBy.refl w _, .inl rfl⟩
  · have hcells : ∀ j u, news[j]? = some u → w.cell? (ad.add j) = some u := by
      intro j u hu
      rcases Nat.eq_zero_or_pos m with h0 | h0
      · rw [hemp h0] at hu
        simp at hu
      · obtain ⟨ad', h, hc⟩ := hr.2 h0
        cases h
        exact hc j u hu
    obtain ⟨v', w', hrun, h2, h3, _, h5⟩ := run_append_own_at (P := P) w base t ty e i z size bytes ht hi hz hsize hby hzs hsz v n xs hown ad m c news hr.1 hcells h1 h63 hbytes hbase
    exact ⟨v', w', hrun, h2, h3, h5⟩

theorem wp_append_src {o : Oper} {a : Act} {K : Act → World → Prop} {Q : Exit → Act → World → Prop} (s x : Operand) (t : TypeId)
    (ho : o.op = .call { callee := .builtin .append, args := #[s, x], argTypes := #[t, t] })
    (base : Nat) (e : TypeId) (i : TypeInfo) (z : Value) (size bytes : Nat) (ht : P.underlying t = some (.slice e)) (hi : P.info? e = some i) (hz : i.zero = some z)
    (hsize : i.size = size) (hby : i.bytes = bytes) (hzs : z.cells.size = size) (hsz : 0 < size)
    (v : Value) (n : Nat) (xs : List Value) (hs : a.eval s = v) (hown : w.ownsRow base e size v n xs)
    (A : Option Addr) (m c : Nat) (news : List Value) (hx : a.eval x = .slice A m c) (hr : Src w A m size news) (h1 : ∀ u ∈ news, u.oneCell' = true)
    (h63 : n + m ≤ maxLen) (hbytes : (n + m) * bytes ≤ 140737488355328) (hbase : base ≤ w.heap.size)
    (h : ∀ v' w', w'.ownsRow base e size v' (n + m) (xs ++ news) → w.grownBy w' v.ownBlock → (v'.ownBlock = v.ownBlock ∨ v'.ownBlock = some w.heap.size) → K (a.put o.dst v') w') : o.wp P a w K Q := by
  obtain ⟨v', w', hrun, h2, h3, h4⟩ := run_append_src (P := P) w base t o.type e i z size bytes ht hi hz hsize hby hzs hsz v n xs hown A m c news hr h1 h63 hbytes hbase
  unfold Oper.wp execOp
  simp only [ho, resolve, invoke, builtin, Sem.run_bind, Sem.run_pure, Result.andThen_ok, List.map_toArray, List.map_cons, List.map_nil, hs, hx, hrun]
  exact h v' w' h2 h3 h4

theorem wpList_append_src {ops : Array Oper} {rest : List Oper} {o : Oper} {a : Act} {Q : Exit → Act → World → Prop} (hgd : o.guard = none) (s x : Operand) (t : TypeId)
    (ho : o.op = .call { callee := .builtin .append, args := #[s, x], argTypes := #[t, t] })
    (base : Nat) (e : TypeId) (i : TypeInfo) (z : Value) (size bytes : Nat) (ht : P.underlying t = some (.slice e)) (hi : P.info? e = some i) (hz : i.zero = some z)
    (hsize : i.size = size) (hby : i.bytes = bytes) (hzs : z.cells.size = size) (hsz : 0 < size)
    (v : Value) (n : Nat) (xs : List Value) (hs : a.eval s = v) (hown : w.ownsRow base e size v n xs)
    (A : Option Addr) (m c : Nat) (news : List Value) (hx : a.eval x = .slice A m c) (hr : Src w A m size news) (h1 : ∀ u ∈ news, u.oneCell' = true)
    (h63 : n + m ≤ maxLen) (hbytes : (n + m) * bytes ≤ 140737488355328) (hbase : base ≤ w.heap.size)
    (h : ∀ v' w', w'.ownsRow base e size v' (n + m) (xs ++ news) → w.grownBy w' v.ownBlock → (v'.ownBlock = v.ownBlock ∨ v'.ownBlock = some w.heap.size) → wpList P ops Q rest (a.put o.dst v') w') : wpList P ops Q (o :: rest) a w :=
  wpList_plain hgd fun _ hK => wp_append_src w s x t ho base e i z size bytes ht hi hz hsize hby hzs hsz v n xs hs hown A m c news hx hr h1 h63 hbytes hbase fun v' w' h2 h3 h4 => hK _ _ (h v' w' h2 h3 h4)
end

section
variable {w w' : World}
/-- An owned row of numbers reads as they are. -/
theorem nums_of_own {K : IntKind} {base : Nat} {e : TypeId} {v : Value} {n : Nat} {l : List Int} (h : w.ownsRow base e 1 v n (l.map (.int K))) : NumsAt K w v l := by
  have hn : l.length = n := by have := h.1; simpa using this
  rcases h.2 with ⟨rfl, h0⟩ | ⟨g, cap, cur, rfl, _, hg, hc, hm, hs, ht⟩
  · have : l.length = 0 := by omega
    exact ⟨none, 0, by rw [this], by omega, by simp [maxLen], fun hp => by omega⟩
  · refine ⟨some ⟨g, 0, none⟩, cap, by rw [hn], by omega, hm, fun hp => ⟨g, 0, rfl, fun k hk => ?_⟩⟩
    have h1 := h.cellAt k (by omega)
    simp only [Nat.zero_add]
    rw [h1, List.getElem?_map, List.getElem?_eq_getElem hk]
    rfl

theorem src_of_nums {K : IntKind} {A : Option Addr} {n c : Nat} {l : List Int} (h : NumsAt K w (.slice A n c) l) : Src w A l.length 1 (l.map (.int K)) := by
  obtain ⟨A', c', e, _, _, hT⟩ := h
  cases e
  refine ⟨by simp, fun hp => ?_⟩
  obtain ⟨b, o, e, hc⟩ := hT hp
  refine ⟨_, e, fun j u hu => ?_⟩
  rw [List.getElem?_map] at hu
  cases hj : l[j]? with
  | none => rw [hj] at hu; cases hu
  | some x =>
    rw [hj] at hu
    cases hu
    have hk : j < l.length := (List.getElem?_eq_some_iff.1 hj).1
    have := hc j hk
    rw [hj] at this
    rw [Addr.add_lit]
    exact this

theorem below_grown {B : Nat} {a : World} {v : Value} (h : Below B a w) (hg : w.grownBy w' v.ownBlock) (hB : B ≤ w.heap.size) {base : Nat} {e : TypeId} {size n : Nat} {xs : List Value} (ho : w.ownsRow base e size v n xs) (hb : B ≤ base) : Below B a w' :=
  h.grown hg hB fun k hk => Nat.le_trans hb (ho.lt k hk).1

/-- Rows of different element types lie apart. -/
theorem own_apart {base base' : Nat} {e e' : TypeId} {size size' n n' : Nat} {v v' : Value} {xs xs' : List Value} (h : w.ownsRow base e size v n xs) (h' : w.ownsRow base' e' size' v' n' xs') (hne : e ≠ e') :
    v.ownBlock = none ∨ v.ownBlock ≠ v'.ownBlock := by
  rcases h.2 with ⟨rfl, _⟩ | ⟨g, cap, cur, rfl, _, hg, _⟩
  · exact .inl rfl
  · right
    rcases h'.2 with ⟨rfl, _⟩ | ⟨g', cap', cur', rfl, _, hg', _⟩
    · simp [Value.ownBlock]
    · intro e1
      simp only [Value.ownBlock, Option.some.injEq] at e1
      subst e1
      rw [hg] at hg'
      cases hg'
      exact hne rfl

theorem own_below {base : Nat} {e : TypeId} {size n : Nat} {v : Value} {xs : List Value} (h : w.ownsRow base e size v n xs) (hb : Below w.heap.size w w') : w'.ownsRow base e size v n xs := by
  refine h.kept (row := none) ⟨hb.os, hb.tape, hb.output, hb.size, fun k hk _ => hb.block k hk⟩ ?_
  cases v.ownBlock <;> simp

theorem ints_one {K : IntKind} (l : List Int) : ∀ u ∈ l.map (Value.int K), u.oneCell' = true := ints_oneCell K l
theorem own_form {base : Nat} {e : TypeId} {size n : Nat} {v : Value} {xs : List Value} (h : w.ownsRow base e size v n xs) : ∃ A c, v = .slice A n c := by
  rcases h.2 with ⟨rfl, rfl⟩ | ⟨g, cap, cur, rfl, _⟩
  · exact ⟨none, 0, rfl⟩
  · exact ⟨_, _, rfl⟩
theorem own_mono {base base' : Nat} {e : TypeId} {size n : Nat} {v : Value} {xs : List Value} (h : w.ownsRow base e size v n xs) (hb : base' ≤ base) : w.ownsRow base' e size v n xs := by
  refine ⟨h.1, ?_⟩
  rcases h.2 with h0 | ⟨g, cap, cur, h1, h2, h3⟩
  · exact .inl h0
  · exact .inr ⟨g, cap, cur, h1, by omega, h3⟩
theorem src_new (w : World) (xs : List Value) (t : TypeId) (m size : Nat) (h : xs.length = m * size) : Src (w.alloc (.cells xs.toArray t)) (some ⟨w.heap.size, 0, none⟩) m size xs := by
  refine ⟨h, fun _ => ⟨_, rfl, fun j u hu => ?_⟩⟩
  rw [Addr.add_lit, cell_of_row _ _ _ _ _ _ (heap_alloc_new w _)]
  simpa using hu
end
end Go.Proofs.Ytmbkpfkkohpnkaa
namespace Go.Proofs.Ytmbkpfkkohpnkaa
open Go Go.RowKit

section
variable {P : Program} {ops : Array Oper} {Q : Exit → Act → World → Prop} {md : Region.Mode} {S : World → Prop} {kp : Nat → Bool}

/-- Whatever order is picked from here on; S holds behind every operation that kp names. -/
def wpAnyF (P : Program) (md : Region.Mode) (ops : Array Oper) (Q : Exit → Act → World → Prop) (S : World → Prop) (kp : Nat → Bool) : Nat → Array Bool → Act → World → Prop
  | 0, listed, a, w => Region.ready md ops listed = [] ∧ Q .normal a w
  | fuel + 1, listed, a, w =>
    (Region.ready md ops listed = [] → Q .normal a w) ∧
    ∀ i ∈ Region.ready md ops listed, wpOp P ops Q i (fun a' w' => (kp i = true → S w') ∧ wpAnyF P md ops Q S kp fuel (listed.setIfInBounds i true) a' w') a w

theorem wpAny_of_front : ∀ (fuel : Nat) (listed : Array Bool) (a : Act) (w : World), wpAnyF P md ops Q S kp fuel listed a w → wpAny P md ops Q fuel listed a w
  | 0, _, _, _, h => h
  | fuel + 1, _, _, _, h => ⟨h.1, fun i hi => wpOp_mono (fun a' w' h' => wpAny_of_front fuel _ a' w' h'.2) (h.2 i hi)⟩

/-- An operation that may come up now is taken first, if it yields its value in every world that meets S; what need not keep S waits for it. -/
theorem wpAnyF_first {i : Nat} {oi : Oper} {v : Value} (hi : ops[i]? = some oi) (hsel : ∀ (j : Nat) (o : Oper) cs b, ops[j]? = some o → o.op ≠ .select cs b)
    (hQ : ∀ c a w, Q (.panic c) (a.put oi.dst v) w → Q (.panic c) a w)
    (hwait : ∀ j oj, ops[j]? = some oj → j ≠ i → kp j = false → ∃ e ∈ oj.after, Region.binds md e = true ∧ e.on = i) :
    ∀ (fuel : Nat) (listed : Array Bool) (a : Act) (w : World),
      (∀ j oj, ops[j]? = some oj → j ≠ i → listed.getD j true = false → (∀ e ∈ oj.after, Region.binds md e = true → e.on ≠ i) → oi.apart ops oj = true) →
      i ∈ Region.ready md ops listed → YieldsIf P ops S oi v a → S w →
      wpAnyF P md ops Q S kp fuel (listed.setIfInBounds i true) (a.put oi.dst v) w → wpAnyF P md ops Q S kp (fuel + 1) listed a w := by
  intro fuel
  induction fuel with
  | zero =>
    intro listed a w _ hr hy hS H
    refine ⟨fun h => (by rw [h] at hr; cases hr), fun j hj => ?_⟩
    by_cases hji : j = i
    · subst hji; exact hy.wpOp hi hS ⟨fun _ => hS, H⟩
    · have := ready_mono hj hji
      rw [H.1] at this
      cases this
  | succ fuel ih =>
    intro listed a w hfree hr hy hS H
    refine ⟨fun h => (by rw [h] at hr; cases hr), fun j hj => ?_⟩
    by_cases hji : j = i
    · subst hji; exact hy.wpOp hi hS ⟨fun _ => hS, H⟩
    · have h1 := H.2 j (ready_mono hj hji)
      obtain ⟨hjun, oj, hoj, hall⟩ := mem_ready.1 hj
      have hnot : ∀ e ∈ oj.after, Region.binds md e = true → e.on ≠ i := fun e he hb heq => by
        have h1 := hall e he hb
        have h0 := (mem_ready.1 hr).1
        rw [heq] at h1
        rcases Nat.lt_or_ge i listed.size with h' | h'
        · simp [h'] at h0 h1; rw [h0] at h1; cases h1
        · simp [Array.getElem?_eq_none h'] at h1
      have hkp : kp j = true := by
        cases hk : kp j with
        | true => rfl
        | false =>
          obtain ⟨e, he, hb, ho⟩ := hwait j oj hoj hji hk
          exact absurd ho (hnot e he hb)
      have h2 := wpOp_putIf hoj (hfree j oj hoj hji hjun hnot) (fun cs b => hsel i oi cs b hi) (fun cs b => hsel j oj cs b hoj) hQ hy h1
      have hfree' : ∀ k ok, ops[k]? = some ok → k ≠ i → (listed.setIfInBounds j true).getD k true = false →
          (∀ e ∈ ok.after, Region.binds md e = true → e.on ≠ i) → oi.apart ops ok = true := fun k ok hk hki hun hno => by
        refine hfree k ok hk hki ?_ hno
        by_cases hjk : j = k
        · subst hjk; exact hjun
        · rw [getD_set_ne true hjk] at hun; exact hun
      refine wpOp_mono (fun a' w' h3 => ⟨h3.2.1, ih (listed.setIfInBounds j true) a' w' hfree' (ready_mono hr (Ne.symm hji)) h3.1 (h3.2.1 hkp) ?_⟩) h2
      rw [Array.setIfInBounds_comm _ _ hji]
      exact h3.2.2

/-- All that need not keep S wait for number i. -/
def frontB (md : Region.Mode) (ops : Array Oper) (kp : Nat → Bool) (i : Nat) : Bool := (List.range ops.size).all fun j => kp j || j == i || Region.waitsFor md ops j i

theorem wpAnyF_take {i : Nat} {oi : Oper} {v : Value} {fuel : Nat} {listed : Array Bool} {a : Act} {w : World} (hi : ops[i]? = some oi)
    (hs : Region.noSelect ops = true) (hf : Region.free md ops listed i = true) (hr : (Region.ready md ops listed).contains i = true) (hk : frontB md ops kp i = true)
    (hQ : ∀ c a w, Q (.panic c) (a.put oi.dst v) w → Q (.panic c) a w) (hy : YieldsIf P ops S oi v a) (hS : S w)
    (h : wpAnyF P md ops Q S kp fuel (listed.setIfInBounds i true) (a.put oi.dst v) w) : wpAnyF P md ops Q S kp (fuel + 1) listed a w := by
  refine wpAnyF_first hi (Region.noSelect_spec hs) hQ (fun j oj hj hji hkj => ?_) fuel listed a w (Region.free_spec hi hf) (by simpa using hr) hy hS h
  have h1 := List.all_eq_true.1 hk j (List.mem_range.2 (Array.getElem?_eq_some_iff.1 hj).1)
  simp only [hkj, Bool.false_or, Bool.or_eq_true, beq_iff_eq] at h1
  rcases h1 with h1 | h1
  · exact absurd h1 hji
  · obtain ⟨oj', hj', e, he⟩ := Region.waitsFor_spec h1
    rw [hj] at hj'
    cases hj'
    exact ⟨e, he⟩

theorem wpAnyF_one {i : Nat} {o : Oper} {fuel : Nat} {listed : Array Bool} {a : Act} {w : World} (hr : Region.ready md ops listed = [i]) (ho : ops[i]? = some o)
    (h : ∀ K' : Act → World → Prop, Hid (∀ a w, (kp i = true → S w) → wpAnyF P md ops Q S kp fuel (listed.setIfInBounds i true) a w → K' a w) → if Region.wanted o (yielded ops a.tmps) = true then Oper.wp P o a w K' Q else K' (a.put o.dst undef) w) :
    wpAnyF P md ops Q S kp (fuel + 1) listed a w := by
  refine ⟨fun h0 => (by rw [hr] at h0; cases h0), fun j hj => ?_⟩
  rw [hr] at hj
  obtain rfl : j = i := by simpa using hj
  exact wpOp_step ho fun K' hK => h K' fun a w hS hW => hK a w ⟨hS, hW⟩

theorem wpAnyF_done {listed : Array Bool} {a : Act} {w : World} (hr : Region.ready md ops listed = []) (h : Q .normal a w) : ∀ fuel, wpAnyF P md ops Q S kp fuel listed a w
  | 0 => ⟨hr, h⟩
  | _ + 1 => ⟨fun _ => h, by rw [hr]; simp⟩

theorem wp_region_front {id : Nat} {a : Act} {w : World} (kp : Nat → Bool) (S : World → Prop) (hm : P.follows .mixedOrders = true)
    (h : wpAnyF P .any ops Q S kp ops.size (Array.replicate ops.size false) a w.drew) : (Code.region id ops true).wp P Q a w :=
  wp_region_any hm (wpAny_of_front _ _ _ _ h)
end

/-! ### One walk: the front in the order of the text, then the rest in the order that is forced -/
/-- Operations that hand back a value and nothing else. -/
def pureKind : Op → Bool
  | .move _ | .assign _ | .nilCheck _ | .pick _ _ _ | .load _ _ | .fieldAddr _ _ _ | .field _ _ _ | .indexAddr _ _ _ | .index _ _ _ | .binOp _ _ _ _ _ | .unOp _ _ _ | .convert _ _ _ | .extract _ _ | .build _ _ | .lookup _ _ _ _ | .makeFunc _ _ _ | .slice _ _ _ _ _ => true
  | .call { callee := .builtin .len, .. } => true
  | _ => false

theorem run_value {s : Sem Value} {P : Program} {w w' : World} {n : Next} (h : (do pure (Next.value (← s)) : Sem Next).run P w = .ok n w') : ∃ v, n = .value v := by
  simp only [Sem.run_bind] at h
  cases hs : s.run P w with
  | ok v w1 =>
    rw [hs] at h
    simp only [Result.andThen_ok, Sem.run_pure] at h
    cases h
    exact ⟨v, rfl⟩
  | halt x w1 =>
    rw [hs] at h
    cases h

theorem andThen_value {r : Result Value} {n : Next} {w' : World} (h : (r.andThen fun a w' => Result.ok (Next.value a) w') = .ok n w') : ∃ v, n = .value v := by
  cases r with
  | ok v w1 =>
    simp only [Result.andThen_ok] at h
    cases h
    exact ⟨v, rfl⟩
  | halt x w1 => cases h

theorem quiet_value {P : Program} {C : World → Prop} {o : Oper} {a : Act} {w : World} {v : Value} (hp : ∀ n w', (execOp a.eval o).run P w = .ok n w' → ∃ u, n = .value u) (h : o.quietAt P a C w v) :
    (execOp a.eval o).run P w = .ok (.value v) w := by
  unfold Oper.quietAt at h
  generalize hr : (execOp a.eval o).run P w = r at *
  cases r with
  | ok n w' =>
    obtain ⟨u, rfl⟩ := hp n w' rfl
    obtain ⟨rfl, rfl⟩ := h
    rfl
  | halt x w' => exact h.elim

theorem pure_value {P : Program} {o : Oper} {ρ : Operand → Value} {w w' : World} {n : Next} (hk : pureKind o.op = true) (h : (execOp ρ o).run P w = .ok n w') : ∃ v, n = .value v := by
  unfold execOp at h
  cases hop : o.op <;> rw [hop] at hk h <;> (try (exfalso; simp [pureKind] at hk; done))
  case call c =>
    obtain ⟨callee, args, tys⟩ := c
    cases callee <;> (try (exfalso; simp [pureKind] at hk; done))
    rename_i b
    cases b <;> (try (exfalso; simp [pureKind] at hk; done))
    simp only [resolve, invoke, builtin, Sem.run_bind, Sem.run_pure, Result.andThen_ok] at h
    exact andThen_value h
  case move x => simp only [Sem.run_pure] at h; cases h; exact ⟨_, rfl⟩
  case assign x => simp only [Sem.run_pure] at h; cases h; exact ⟨_, rfl⟩
  case pick c a b =>
    simp only [Sem.run_bind] at h
    cases hs : (asBool (ρ c)).run P w with
    | ok v w1 =>
      rw [hs] at h
      simp only [Result.andThen_ok, Sem.run_pure] at h
      cases h
      exact ⟨_, rfl⟩
    | halt x w1 =>
      rw [hs] at h
      cases h
  case nilCheck x =>
    simp only at h
    split at h
    · simp [runtimePanic] at h
    · simp [runtimePanic] at h
    · simp [runtimePanic] at h
    · split at h
      · simp [runtimePanic] at h
      · simp only [Sem.run_bind] at h
        cases h1 : program.run P w with
        | halt z z' => rw [h1] at h; cases h
        | ok a w1 =>
          rw [h1] at h
          simp only [Result.andThen_ok] at h
          generalize (nilAhead (a.types.size + Made.depth) _ _ _).run P w1 = r2 at h
          cases r2 with
          | halt z z' => cases h
          | ok b w2 =>
            simp only [Result.andThen_ok] at h
            split at h
            · simp only [Sem.run_bind] at h
              generalize (unsupported _ : Sem Unit).run P w2 = r3 at h
              cases r3 with
              | halt z z' => cases h
              | ok c w3 =>
                simp only [Result.andThen_ok, Sem.run_pure] at h
                cases h
                exact ⟨_, rfl⟩
            · simp only [Sem.run_pure] at h
              cases h
              exact ⟨_, rfl⟩
      · simp only [Sem.run_pure] at h; cases h; exact ⟨_, rfl⟩
    · simp only [Sem.run_pure] at h; cases h; exact ⟨_, rfl⟩
  all_goals exact run_value h

def Meets (S : World → Prop) : Type := { x : World // S x }

/-- The rest in its forced order; S is shown behind what kp names. -/
def wpSeqF (P : Program) (ops : Array Oper) (Q : Exit → Act → World → Prop) (S : World → Prop) (kp : Nat → Bool) : Nat → List Oper → Act → World → Prop
  | _, [], a, w => Q .normal a w
  | i, o :: rest, a, w => if Region.wanted o (yielded ops a.tmps) then o.wp P a w (fun a' w' => (kp i = true → S w') ∧ wpSeqF P ops Q S kp (i + 1) rest a' w') Q ∨ (o.asks P a w ∧ LetsOut Q)
    else (kp i = true → S w) ∧ wpSeqF P ops Q S kp (i + 1) rest (a.put o.dst undef) w

section
variable {P : Program} {ops : Array Oper} {Q : Exit → Act → World → Prop} {md : Region.Mode} {S : World → Prop} {kp : Nat → Bool}
theorem wpAnyF_of_seq : ∀ (l : List Oper) (k : Nat) (listed : Array Bool) (a : Act) (w : World), (∀ j, l[j]? = ops[k + j]?) → Region.seqB md ops l.length k listed = true →
    wpSeqF P ops Q S kp k l a w → wpAnyF P md ops Q S kp l.length listed a w
  | [], k, listed, a, w, _, hB, h => ⟨by simpa [Region.seqB] using hB, h⟩
  | o :: l, k, listed, a, w, hl, hB, h => by
    have h0 : ops[k]? = some o := by simpa using (hl 0).symm
    simp only [List.length_cons, Region.seqB, Bool.and_eq_true, beq_iff_eq] at hB
    have hr : Region.ready md ops listed = [k] := of_decide_eq_true hB.1
    refine ⟨fun h0 => (by rw [hr] at h0; cases h0), fun j hj => ?_⟩
    rw [hr] at hj
    obtain rfl : j = k := by simpa using hj
    have hw : wpOp P ops Q j (fun a' w' => (kp j = true → S w') ∧ wpSeqF P ops Q S kp (j + 1) l a' w') a w := by
      unfold wpOp
      simp only [h0]
      unfold wpSeqF at h
      split
      · rename_i hw
        rw [if_pos hw] at h
        exact h
      · rename_i hw
        rw [if_neg hw] at h
        exact h
    exact wpOp_mono (fun a' w' h' => ⟨h'.1, wpAnyF_of_seq l (j + 1) _ a' w' (fun i => by have := hl (i + 1); simpa [Nat.add_assoc, Nat.add_comm 1 i] using this) hB.2 h'.2⟩) hw

theorem wpSeqF_nil {i : Nat} {a : Act} {w : World} (h : Q .normal a w) : wpSeqF P ops Q S kp i [] a w := h
theorem wpSeqF_step {i : Nat} {o : Oper} {rest : List Oper} {a : Act} {w : World}
    (h : ∀ K' : Act → World → Prop, Hid (∀ a w, (kp i = true → S w) → wpSeqF P ops Q S kp (i + 1) rest a w → K' a w) → if Region.wanted o (yielded ops a.tmps) = true then Oper.wp P o a w K' Q else K' (a.put o.dst undef) w) :
    wpSeqF P ops Q S kp i (o :: rest) a w := by
  have := h (fun a' w' => (kp i = true → S w') ∧ wpSeqF P ops Q S kp (i + 1) rest a' w') (fun a w h1 h2 => ⟨h1, h2⟩)
  unfold wpSeqF
  split
  · rename_i hw; rw [if_pos hw] at this; exact .inl this
  · rename_i hw; rw [if_neg hw] at this; exact this

/-- The front and the rest, as one Bool over the region. -/
def Region.frontSeqB (md : Region.Mode) (ops : Array Oper) (kp : Nat → Bool) (m : Nat) : Nat → Nat → Array Bool → Bool
  | 0, k, listed => Region.seqB md ops m k listed
  | n + 1, k, listed => (match ops[k]? with | some o => pureKind o.op | none => false) && ((Region.ready md ops listed).contains k && (Region.free md ops listed k && (frontB md ops kp k && Region.frontSeqB md ops kp m n (k + 1) (listed.setIfInBounds k true))))

theorem wpAnyF_front (hs : Region.noSelect ops = true) (hQ : ∀ c a d v w, Q (.panic c) (a.put d v) w → Q (.panic c) a w) : ∀ (l r : List Oper) (k : Nat) (listed : Array Bool) (a : Act) (w : World),
    (∀ j, (l ++ r)[j]? = ops[k + j]?) → Region.frontSeqB md ops kp r.length l.length k listed = true → S w →
    wpQuiet P ops (fun w' => ∃ x : Meets S, w' = x.val) (fun a' => wpSeqF P ops Q S kp (k + l.length) r a' w) l a → wpAnyF P md ops Q S kp (l ++ r).length listed a w
  | [], r, k, listed, a, w, hl, hB, _, h => wpAnyF_of_seq r k listed a w (by simpa using hl) (by simpa [Region.frontSeqB] using hB) (by simpa [wpQuiet] using h)
  | o :: l, r, k, listed, a, w, hl, hB, hS, h => by
    have h0 : ops[k]? = some o := by simpa using (hl 0).symm
    simp only [List.length_cons, Region.frontSeqB, h0, Bool.and_eq_true] at hB
    obtain ⟨hpk, hr, hf, hk, hB'⟩ := hB
    have hq : qOp P ops (fun w' => ∃ x : Meets S, w' = x.val) k (wpQuiet P ops (fun w' => ∃ x : Meets S, w' = x.val) (fun a' => wpSeqF P ops Q S kp (k + (o :: l).length) r a' w) l) a := by
      unfold qOp; simp only [h0]; exact h
    obtain ⟨v, hy, hK⟩ := yieldsIn_of_qOp h0 hq
    have hy' : YieldsIf P ops S o v a := by
      rcases hy with ⟨hw, hv⟩ | hy
      · exact .inl ⟨hw, fun w' hS' => quiet_value (fun n w1 h1 => pure_value hpk h1) (hv w' ⟨⟨w', hS'⟩, rfl⟩)⟩
      · exact .inr hy
    refine wpAnyF_take h0 hs hf hr hk (fun c a w => hQ c a _ _ w) hy' hS ?_
    exact wpAnyF_front hs hQ l r (k + 1) _ _ w (fun j => by have := hl (j + 1); simpa [Nat.add_assoc, Nat.add_comm 1 j] using this) hB' hS
      (by rw [show k + 1 + l.length = k + (o :: l).length from by simp only [List.length_cons]; omega]; exact hK)

/-- **A region that draws its order: its first n operations (which only read, in every world that meets S), then the rest, whose order is forced.** -/
theorem wp_region_fs {id : Nat} {a : Act} {w : World} {l : List Oper} (n : Nat) (kp : Nat → Bool) (S : World → Prop) (hm : P.follows .mixedOrders = true)
    (hB : (Region.noSelect l.toArray && (decide (n ≤ l.length) && Region.frontSeqB .any l.toArray kp (l.length - n) n 0 (Array.replicate l.toArray.size false))) = true)
    (hQ : ∀ c a d v w, Q (.panic c) (a.put d v) w → Q (.panic c) a w) (hS : S w.drew)
    (h : Nonempty (Meets S) → wpQuiet P l.toArray (fun w' => ∃ x : Meets S, w' = x.val) (fun a' => wpSeqF P l.toArray Q S kp n (l.drop n) a' w.drew) (l.take n) a) : (Code.region id l.toArray true).wp P Q a w := by
  simp only [Bool.and_eq_true, decide_eq_true_eq] at hB
  obtain ⟨h1, h2, h3⟩ := hB
  have htl : (l.take n).length = n := by simp; omega
  have hdl : (l.drop n).length = l.length - n := by simp
  have hcat : l.take n ++ l.drop n = l := List.take_append_drop n l
  refine wp_region_front kp S hm ?_
  have := wpAnyF_front (P := P) (ops := l.toArray) (Q := Q) (md := .any) (S := S) (kp := kp) h1 hQ (l.take n) (l.drop n) 0 (Array.replicate l.toArray.size false) a w.drew
    (fun j => by rw [hcat]; simp) (by rw [htl, hdl]; exact h3) hS (by rw [htl, Nat.zero_add]; exact h ⟨⟨w.drew, hS⟩⟩)
  rw [hcat] at this
  simpa using this
end
end Go.Proofs.Ytmbkpfkkohpnkaa
namespace Go.Proofs.Ytmbkpfkkohpnkaa
open Go Go.RowKit

/-- The operations of these numbers. -/
def pick (l : List Oper) (is : List Nat) : List Oper := is.filterMap (l[·]?)

section
variable {P : Program} {ops : Array Oper} {Q : Exit → Act → World → Prop} {md : Region.Mode} {S : World → Prop} {kp : Nat → Bool}

theorem wpQuiet_mono {C : World → Prop} {K K' : Act → Prop} (h : ∀ a, K a → K' a) : ∀ (l : List Oper) (a : Act), wpQuiet P ops C K l a → wpQuiet P ops C K' l a
  | [], a, hk => h a hk
  | o :: l, a, hk => by
    unfold wpQuiet at *
    split
    · rename_i hw
      rw [if_pos hw] at hk
      exact Oper.quiet_mono (fun a => wpQuiet_mono h l a) hk
    · rename_i hw
      rw [if_neg hw] at hk
      exact wpQuiet_mono h l _ hk

/-- These may come first, one behind the other. -/
def frontPickB (md : Region.Mode) (ops : Array Oper) (kp : Nat → Bool) : List Nat → Array Bool → Bool
  | [], _ => true
  | i :: is, listed => (match ops[i]? with | some o => pureKind o.op | none => false) && ((Region.ready md ops listed).contains i && (Region.free md ops listed i && (frontB md ops kp i && frontPickB md ops kp is (listed.setIfInBounds i true))))

def listAll (is : List Nat) (listed : Array Bool) : Array Bool := is.foldl (fun l i => l.setIfInBounds i true) listed

theorem wpAnyF_pick (hs : Region.noSelect ops = true) (hQ : ∀ c a d v w, Q (.panic c) (a.put d v) w → Q (.panic c) a w) (m : Nat) : ∀ (is : List Nat) (listed : Array Bool) (a : Act) (w : World),
    frontPickB md ops kp is listed = true → S w →
    wpQuiet P ops (fun w' => ∃ x : Meets S, w' = x.val) (fun a' => wpAnyF P md ops Q S kp m (listAll is listed) a' w) (pick ops.toList is) a → wpAnyF P md ops Q S kp (is.length + m) listed a w
  | [], listed, a, w, _, _, h => by simpa [pick, wpQuiet, listAll] using h
  | i :: is, listed, a, w, hB, hS, h => by
    cases h0 : ops[i]? with
    | none => simp [frontPickB, h0] at hB
    | some o =>
      have hp : pick ops.toList (i :: is) = o :: pick ops.toList is := by
        unfold pick
        rw [List.filterMap_cons]
        simp [h0]
      simp only [frontPickB, h0, Bool.and_eq_true] at hB
      obtain ⟨hpk, hr, hf, hk, hB'⟩ := hB
      rw [hp] at h
      have hq : qOp P ops (fun w' => ∃ x : Meets S, w' = x.val) i (wpQuiet P ops (fun w' => ∃ x : Meets S, w' = x.val) (fun a' => wpAnyF P md ops Q S kp m (listAll (i :: is) listed) a' w) (pick ops.toList is)) a := by
        unfold qOp; simp only [h0]; exact h
      obtain ⟨v, hy, hK⟩ := yieldsIn_of_qOp h0 hq
      have hy' : YieldsIf P ops S o v a := by
        rcases hy with ⟨hw, hv⟩ | hy
        · exact .inl ⟨hw, fun w' hS' => quiet_value (fun n w1 h1 => pure_value hpk h1) (hv w' ⟨⟨w', hS'⟩, rfl⟩)⟩
        · exact .inr hy
      rw [show (i :: is).length + m = (is.length + m) + 1 from by simp only [List.length_cons]; omega]
      exact wpAnyF_take h0 hs hf hr hk (fun c a w => hQ c a _ _ w) hy' hS (wpAnyF_pick hs hQ m is _ _ w hB' hS hK)

/-- The rest in the order of these numbers. -/
def seqPickB (md : Region.Mode) (ops : Array Oper) : List Nat → Array Bool → Bool
  | [], listed => (Region.ready md ops listed).isEmpty
  | i :: is, listed => decide (Region.ready md ops listed = [i]) && seqPickB md ops is (listed.setIfInBounds i true)

/-- The rest, S shown behind what kp names. -/
def wpSeqP (P : Program) (ops : Array Oper) (Q : Exit → Act → World → Prop) (S : World → Prop) (kp : Nat → Bool) : List (Nat × Oper) → Act → World → Prop
  | [], a, w => Q .normal a w
  | (i, o) :: rest, a, w => if Region.wanted o (yielded ops a.tmps) then o.wp P a w (fun a' w' => (kp i = true → S w') ∧ wpSeqP P ops Q S kp rest a' w') Q ∨ (o.asks P a w ∧ LetsOut Q)
    else (kp i = true → S w) ∧ wpSeqP P ops Q S kp rest (a.put o.dst undef) w

def pickN (l : List Oper) (is : List Nat) : List (Nat × Oper) := is.filterMap fun i => (l[i]?).map fun o => (i, o)

theorem wpAnyF_of_pick : ∀ (is : List Nat) (listed : Array Bool) (a : Act) (w : World), (∀ i ∈ is, i < ops.size) → seqPickB md ops is listed = true →
    wpSeqP P ops Q S kp (pickN ops.toList is) a w → wpAnyF P md ops Q S kp is.length listed a w
  | [], listed, a, w, _, hB, h => ⟨by simpa [seqPickB] using hB, by simpa [pickN, wpSeqP] using h⟩
  | k :: is, listed, a, w, hlt, hB, h => by
    have hk := hlt k (by simp)
    have h0 : ops[k]? = some ops[k] := Array.getElem?_eq_getElem hk
    have hp : pickN ops.toList (k :: is) = (k, ops[k]) :: pickN ops.toList is := by
      unfold pickN
      rw [List.filterMap_cons]
      simp [h0]
    rw [hp] at h
    simp only [seqPickB, Bool.and_eq_true, decide_eq_true_eq] at hB
    refine ⟨fun h1 => (by rw [hB.1] at h1; cases h1), fun j hj => ?_⟩
    rw [hB.1] at hj
    obtain rfl : j = k := by simpa using hj
    have hw : wpOp P ops Q j (fun a' w' => (kp j = true → S w') ∧ wpSeqP P ops Q S kp (pickN ops.toList is) a' w') a w := by
      unfold wpOp
      simp only [h0]
      unfold wpSeqP at h
      split
      · rename_i hw
        rw [if_pos hw] at h
        exact h
      · rename_i hw
        rw [if_neg hw] at h
        exact h
    exact wpOp_mono (fun a' w' h' => ⟨h'.1, wpAnyF_of_pick is _ a' w' (fun i hi => hlt i (by simp [hi])) hB.2 h'.2⟩) hw

theorem wpSeqP_nil {a : Act} {w : World} (h : Q .normal a w) : wpSeqP P ops Q S kp [] a w := h
theorem wpSeqP_step {i : Nat} {o : Oper} {rest : List (Nat × Oper)} {a : Act} {w : World}
    (h : ∀ K' : Act → World → Prop, Hid (∀ a w, (kp i = true → S w) → wpSeqP P ops Q S kp rest a w → K' a w) → if Region.wanted o (yielded ops a.tmps) = true then Oper.wp P o a w K' Q else K' (a.put o.dst undef) w) :
    wpSeqP P ops Q S kp ((i, o) :: rest) a w := by
  have := h (fun a' w' => (kp i = true → S w') ∧ wpSeqP P ops Q S kp rest a' w') (fun a w h1 h2 => ⟨h1, h2⟩)
  unfold wpSeqP
  split
  · rename_i hw; rw [if_pos hw] at this; exact .inl this
  · rename_i hw; rw [if_neg hw] at this; exact this

/-- **A region that draws its order: these operations first (they only read, in every world that meets S), then these, in an order that is forced.** -/
theorem wp_region_pick {id : Nat} {a : Act} {w : World} {l : List Oper} (fs rs : List Nat) (kp : Nat → Bool) (S : World → Prop) (hm : P.follows .mixedOrders = true)
    (hB : (Region.noSelect l.toArray && (frontPickB .any l.toArray kp fs (Array.replicate l.toArray.size false) && (seqPickB .any l.toArray rs (listAll fs (Array.replicate l.toArray.size false)) && (decide (fs.length + rs.length = l.length) && rs.all fun i => decide (i < l.length))))) = true)
    (hQ : ∀ c a d v w, Q (.panic c) (a.put d v) w → Q (.panic c) a w) (hS : S w.drew)
    (h : Nonempty (Meets S) → wpQuiet P l.toArray (fun w' => ∃ x : Meets S, w' = x.val) (fun a' => wpSeqP P l.toArray Q S kp (pickN l rs) a' w.drew) (pick l fs) a) : (Code.region id l.toArray true).wp P Q a w := by
  simp only [Bool.and_eq_true, decide_eq_true_eq] at hB
  obtain ⟨h1, h2, h3, h4, h5⟩ := hB
  refine wp_region_front kp S hm ?_
  have hq := h ⟨⟨w.drew, hS⟩⟩
  have := wpAnyF_pick (P := P) (ops := l.toArray) (Q := Q) (md := .any) (S := S) (kp := kp) h1 hQ rs.length fs (Array.replicate l.toArray.size false) a w.drew h2 hS (by
    refine wpQuiet_mono (fun a' h' => ?_) _ _ hq
    refine wpAnyF_of_pick rs _ a' w.drew (fun i hi => ?_) h3 h'
    have := List.all_eq_true.1 h5 i hi
    simpa using this)
  rw [h4] at this
  simpa using this
end
end Go.Proofs.Ytmbkpfkkohpnkaa
namespace Go.Proofs.Ytmbkpfkkohpnkaa
open Go Go.RowKit

/-! ### A region that draws its order, in phases: reads that may come first, then what is forced, and again -/
section
variable {P : Program} {ops : Array Oper} {Q : Exit → Act → World → Prop} {md : Region.Mode} {S : World → Prop} {kp : Nat → Bool}

def seqKB (md : Region.Mode) (ops : Array Oper) : List Nat → Array Bool → Bool
  | [], _ => true
  | i :: is, listed => decide (Region.ready md ops listed = [i]) && seqKB md ops is (listed.setIfInBounds i true)

def wpSeqK (P : Program) (ops : Array Oper) (Q : Exit → Act → World → Prop) (S : World → Prop) (kp : Nat → Bool) (K : Act → World → Prop) : List (Nat × Oper) → Act → World → Prop
  | [], a, w => K a w
  | (i, o) :: rest, a, w => if Region.wanted o (yielded ops a.tmps) then o.wp P a w (fun a' w' => (kp i = true → S w') ∧ wpSeqK P ops Q S kp K rest a' w') Q ∨ (o.asks P a w ∧ LetsOut Q)
    else (kp i = true → S w) ∧ wpSeqK P ops Q S kp K rest (a.put o.dst undef) w

theorem wpAnyF_of_seqK {m : Nat} : ∀ (is : List Nat) (listed : Array Bool) (a : Act) (w : World), (∀ i ∈ is, i < ops.size) → seqKB md ops is listed = true →
    wpSeqK P ops Q S kp (fun a' w' => wpAnyF P md ops Q S kp m (listAll is listed) a' w') (pickN ops.toList is) a w → wpAnyF P md ops Q S kp (is.length + m) listed a w
  | [], listed, a, w, hlt, hB, h => by simpa [pickN, wpSeqK, listAll] using h
  | k :: is, listed, a, w, hlt, hB, h => by
    have hk := hlt k (by simp)
    have h0 : ops[k]? = some ops[k] := Array.getElem?_eq_getElem hk
    have hp : pickN ops.toList (k :: is) = (k, ops[k]) :: pickN ops.toList is := by
      unfold pickN
      rw [List.filterMap_cons]
      simp [h0]
    rw [hp] at h
    simp only [seqKB, Bool.and_eq_true, decide_eq_true_eq] at hB
    rw [show (k :: is).length + m = (is.length + m) + 1 from by simp only [List.length_cons]; omega]
    refine ⟨fun h1 => (by rw [hB.1] at h1; cases h1), fun j hj => ?_⟩
    rw [hB.1] at hj
    obtain rfl : j = k := by simpa using hj
    have hw : wpOp P ops Q j (fun a' w' => (kp j = true → S w') ∧ wpSeqK P ops Q S kp (fun a' w' => wpAnyF P md ops Q S kp m (listAll is (listed.setIfInBounds j true)) a' w') (pickN ops.toList is) a' w') a w := by
      unfold wpOp
      simp only [h0]
      unfold wpSeqK at h
      split
      · rename_i hw
        rw [if_pos hw] at h
        exact h
      · rename_i hw
        rw [if_neg hw] at h
        exact h
    exact wpOp_mono (fun a' w' h' => ⟨h'.1, wpAnyF_of_seqK is _ a' w' (fun i hi => hlt i (by simp [hi])) hB.2 h'.2⟩) hw

theorem wpSeqK_nil {K : Act → World → Prop} {a : Act} {w : World} (h : K a w) : wpSeqK P ops Q S kp K [] a w := h
theorem wpSeqK_step {K : Act → World → Prop} {i : Nat} {o : Oper} {rest : List (Nat × Oper)} {a : Act} {w : World}
    (h : ∀ K' : Act → World → Prop, Hid (∀ a w, (kp i = true → S w) → wpSeqK P ops Q S kp K rest a w → K' a w) → if Region.wanted o (yielded ops a.tmps) = true then Oper.wp P o a w K' Q else K' (a.put o.dst undef) w) :
    wpSeqK P ops Q S kp K ((i, o) :: rest) a w := by
  have := h (fun a' w' => (kp i = true → S w') ∧ wpSeqK P ops Q S kp K rest a' w') (fun a w h1 h2 => ⟨h1, h2⟩)
  unfold wpSeqK
  split
  · rename_i hw; rw [if_pos hw] at this; exact .inl this
  · rename_i hw; rw [if_neg hw] at this; exact this

/-- The phases. -/
def wpPh (P : Program) (ops : Array Oper) (Q : Exit → Act → World → Prop) (S : World → Prop) (kp : Nat → Bool) : List (List Nat × List Nat) → Act → World → Prop
  | [], a, w => Q .normal a w
  | (fs, rs) :: r, a, w => S w ∧ wpQuiet P ops (fun w' => ∃ x : Meets S, w' = x.val) (fun a' => wpSeqK P ops Q S kp (wpPh P ops Q S kp r) (pickN ops.toList rs) a' w) (pick ops.toList fs) a

def phB (md : Region.Mode) (ops : Array Oper) (kp : Nat → Bool) : List (List Nat × List Nat) → Array Bool → Bool
  | [], listed => (Region.ready md ops listed).isEmpty
  | (fs, rs) :: r, listed => frontPickB md ops kp fs listed && (seqKB md ops rs (listAll fs listed) && ((rs.all fun i => decide (i < ops.size)) && phB md ops kp r (listAll rs (listAll fs listed))))

def phLen : List (List Nat × List Nat) → Nat
  | [] => 0
  | (fs, rs) :: r => fs.length + (rs.length + phLen r)

theorem wpSeqK_mono {K K' : Act → World → Prop} (hK : ∀ a w, K a w → K' a w) : ∀ (l : List (Nat × Oper)) (a : Act) (w : World), wpSeqK P ops Q S kp K l a w → wpSeqK P ops Q S kp K' l a w
  | [], a, w, h => hK a w h
  | (i, o) :: l, a, w, h => by
    unfold wpSeqK at *
    split
    · rename_i hw
      rw [if_pos hw] at h
      rcases h with h | h
      · exact .inl (Oper.wp_mono (fun a' w' h' => ⟨h'.1, wpSeqK_mono hK l a' w' h'.2⟩) h)
      · exact .inr h
    · rename_i hw
      rw [if_neg hw] at h
      exact ⟨h.1, wpSeqK_mono hK l _ w h.2⟩

theorem wpAnyF_ph (hs : Region.noSelect ops = true) (hQ : ∀ c a d v w, Q (.panic c) (a.put d v) w → Q (.panic c) a w) : ∀ (l : List (List Nat × List Nat)) (listed : Array Bool) (a : Act) (w : World), phB md ops kp l listed = true →
    wpPh P ops Q S kp l a w → wpAnyF P md ops Q S kp (phLen l) listed a w
  | [], listed, a, w, hB, h => ⟨by simpa [phB] using hB, h⟩
  | (fs, rs) :: r, listed, a, w, hB, h => by
    simp only [phB, Bool.and_eq_true] at hB
    obtain ⟨h1, h2, h3, h4⟩ := hB
    obtain ⟨hS, hq⟩ := h
    refine wpAnyF_pick hs hQ (rs.length + phLen r) fs listed a w h1 hS (wpQuiet_mono (fun a' h' => ?_) _ _ hq)
    refine wpAnyF_of_seqK rs _ a' w (fun i hi => by have := List.all_eq_true.1 h3 i hi; simpa using this) h2 ?_
    exact wpSeqK_mono (fun a w h => wpAnyF_ph hs hQ r _ a w h4 h) _ _ _ h'

/-- **A region that draws its order, in phases.** -/
theorem wp_region_ph {id : Nat} {a : Act} {w : World} {l : List Oper} (ph : List (List Nat × List Nat)) (kp : Nat → Bool) (S : World → Prop) (hm : P.follows .mixedOrders = true)
    (hB : (Region.noSelect l.toArray && (phB .any l.toArray kp ph (Array.replicate l.toArray.size false) && decide (phLen ph = l.length))) = true)
    (hQ : ∀ c a d v w, Q (.panic c) (a.put d v) w → Q (.panic c) a w)
    (h : wpPh P l.toArray Q S kp ph a w.drew) : (Code.region id l.toArray true).wp P Q a w := by
  simp only [Bool.and_eq_true, decide_eq_true_eq] at hB
  obtain ⟨h1, h2, h3⟩ := hB
  refine wp_region_front kp S hm ?_
  have := wpAnyF_ph (P := P) (Q := Q) (S := S) h1 hQ ph (Array.replicate l.toArray.size false) a w.drew h2 h
  rw [h3] at this
  simpa using this

theorem wpPh_nil {a : Act} {w : World} (h : Q .normal a w) : wpPh P ops Q S kp [] a w := h
theorem wpPh_cons {fs rs : List Nat} {r : List (List Nat × List Nat)} {a : Act} {w : World} (hS : S w)
    (h : Nonempty (Meets S) → wpQuiet P ops (fun w' => ∃ x : Meets S, w' = x.val) (fun a' => wpSeqK P ops Q S kp (wpPh P ops Q S kp r) (pickN ops.toList rs) a' w) (pick ops.toList fs) a) : wpPh P ops Q S kp ((fs, rs) :: r) a w :=
  ⟨hS, h ⟨⟨w, hS⟩⟩⟩
end
end Go.Proofs.Ytmbkpfkkohpnkaa
