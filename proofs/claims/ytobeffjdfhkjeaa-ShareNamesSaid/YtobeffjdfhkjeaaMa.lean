import Derived.WalkKit
import Derived.Below
import Derived.Lib.Hide
import Derived.Laws.OwnMore
import Derived.Deep.AppendLies
import Derived.Deep.Draws
import Derived.BigQuiet
import Derived.Deep.QuietTactic
import Derived.KernelRfl
import Derived.Test.YtobeffjdfhkjeaaProg
import Derived.WalkSpells
import Derived.WalkLawsBesides
import Derived.Outline
set_option linter.unusedVariables false
set_option linter.unusedSimpArgs false
namespace Go.Proofs.Ytobeffjdfhkjeaa
open Go.RowKit

/-- A slice of numbers of kind K that reads as l. -/
def NumsAt (K : IntKind) (w : World) (v : Value) (l : List Int) : Prop :=
  ∃ A c, v = .slice A l.length c ∧ l.length ≤ c ∧ c ≤ maxLen ∧
    (0 < l.length → ∃ b o, A = some ⟨b, o, none⟩ ∧ ∀ k, k < l.length → w.cell? ⟨b, o + k, none⟩ = some (.int K (l[k]?.getD 0)))

/-- A slice of slices of ints. -/
def RowsAt (w : World) (v : Value) (ll : List (List Int)) : Prop :=
  ∃ A c, v = .slice A ll.length c ∧ ll.length ≤ c ∧ c ≤ maxLen ∧
    (0 < ll.length → ∃ b o, A = some ⟨b, o, none⟩ ∧ ∀ k, k < ll.length → ∃ u, w.cell? ⟨b, o + k, none⟩ = some u ∧ NumsAt .i64 w u (ll[k]?.getD []))

structure Strat where
  coins : Int
  lo : Int
  hi : Int
  seen : List Int

def Strat.none : Strat := ⟨0, 0, 0, []⟩

/-- A slice of strata: four cells each. -/
def StrataAt (w : World) (v : Value) (ss : List Strat) : Prop :=
  ∃ A c, v = .slice A ss.length c ∧ ss.length ≤ c ∧ c ≤ maxLen ∧
    (0 < ss.length → ∃ b o, A = some ⟨b, o, none⟩ ∧ ∀ k s, ss[k]? = some s → ∃ u, NumsAt .i64 w u s.seen ∧
      w.cell? ⟨b, o + k * 4, none⟩ = some (.int .i64 s.coins) ∧ w.cell? ⟨b, o + k * 4 + 1, none⟩ = some (.int .i64 s.lo) ∧
      w.cell? ⟨b, o + k * 4 + 2, none⟩ = some (.int .i64 s.hi) ∧ w.cell? ⟨b, o + k * 4 + 3, none⟩ = some u)

section
variable {w w' : World} {v : Value}
theorem cell_below (hb : Below w.heap.size w w') {p : Addr} {x : Value} (h : w.cell? p = some x) : w'.cell? p = some x :=
  (hb.cell (World.block_lt_of_cell? w p h)).trans h

theorem NumsAt.below {K : IntKind} {l : List Int} (h : NumsAt K w v l) (hb : Below w.heap.size w w') : NumsAt K w' v l := by
  obtain ⟨A, c, rfl, h1, h2, h3⟩ := h
  refine ⟨A, c, rfl, h1, h2, fun hp => ?_⟩
  obtain ⟨b, o, e, hc⟩ := h3 hp
  exact ⟨b, o, e, fun k hk => cell_below hb (hc k hk)⟩

theorem RowsAt.below {ll : List (List Int)} (h : RowsAt w v ll) (hb : Below w.heap.size w w') : RowsAt w' v ll := by
  obtain ⟨A, c, rfl, h1, h2, h3⟩ := h
  refine ⟨A, c, rfl, h1, h2, fun hp => ?_⟩
  obtain ⟨b, o, e, hc⟩ := h3 hp
  refine ⟨b, o, e, fun k hk => ?_⟩
  obtain ⟨u, hu, hn⟩ := hc k hk
  exact ⟨u, cell_below hb hu, hn.below hb⟩

theorem StrataAt.below {ss : List Strat} (h : StrataAt w v ss) (hb : Below w.heap.size w w') : StrataAt w' v ss := by
  obtain ⟨A, c, rfl, h1, h2, h3⟩ := h
  refine ⟨A, c, rfl, h1, h2, fun hp => ?_⟩
  obtain ⟨b, o, e, hc⟩ := h3 hp
  refine ⟨b, o, e, fun k s hs => ?_⟩
  obtain ⟨u, hn, c0, c1, c2, c3⟩ := hc k s hs
  exact ⟨u, hn.below hb, cell_below hb c0, cell_below hb c1, cell_below hb c2, cell_below hb c3⟩
end

/-- The call hands back v and has changed nothing that was there. -/
def Gives (w : World) (v : Value) (e : Ending) (w' : World) : Prop := e = .returned v ∧ Below w.heap.size w w'

/-- The call hands back v and leaves the world alone. -/
def Same (w : World) (v : Value) (e : Ending) (w' : World) : Prop := e = .returned v ∧ w = w'
theorem Same.gives {P : Program} {f : FuncId} {args : Array Value} {w : World} {v : Value} (h : Calls P f args w (Same w v)) : Calls P f args w (Gives w v) :=
  h.mono fun _ _ ⟨he, hw⟩ => ⟨he, hw ▸ Below.refl _ _⟩
theorem Same.to {P : Program} {f : FuncId} {args : Array Value} {w W : World} {a b : Bool} (e : a = b) (h : Calls P f args w (Same W (.bool a))) : Calls P f args w (Same W (.bool b)) := by
  rw [← e]; exact h
theorem same_int {w : World} {K : IntKind} {a b : Int} (h : a = b) : Same w (.int K b) (.returned (.int K a)) w := ⟨by rw [h], rfl⟩
theorem gives_bool {w w' : World} {a b : Bool} (h : a = b) (hb : Below w.heap.size w w') : Gives w (.bool b) (.returned (.bool a)) w' := ⟨by rw [h], hb⟩
theorem gives_int {w w' : World} {K : IntKind} {a b : Int} (h : a = b) (hb : Below w.heap.size w w') : Gives w (.int K b) (.returned (.int K a)) w' := ⟨by rw [h], hb⟩

def inB (n lo hi : Int) : Bool := decide (lo ≤ n ∧ n ≤ hi)

def thinB (ss : List Strat) : Bool := decide (ss.length ≤ 12) && ss.all fun s => decide (s.seen.length ≤ 9)

theorem all_of {α : Type} {l : List α} {p : α → Bool} (h : ∀ (j : Nat) (s : α), j < l.length → l[j]? = some s → p s = true) : l.all p = true := by
  rw [List.all_eq_true]
  intro x hx
  obtain ⟨j, hj, rfl⟩ := List.getElem_of_mem hx
  exact h j _ hj (List.getElem?_eq_getElem hj)

theorem not_all_of {α : Type} {l : List α} {p : α → Bool} {j : Nat} {s : α} (h : l[j]? = some s) (hs : p s = false) : l.all p = false := by
  rw [List.all_eq_false]
  exact ⟨s, List.mem_of_getElem? h, by simp [hs]⟩

theorem thin_yes {ss : List Strat} (h1 : ss.length ≤ 12) (h : ∀ (j : Nat) (s : Strat), j < ss.length → ss[j]? = some s → s.seen.length ≤ 9) : thinB ss = true := by
  unfold thinB
  rw [all_of fun j s hj hs => by simpa using h j s hj hs]
  simpa using h1
theorem thin_no {ss : List Strat} (h : 12 < ss.length) : thinB ss = false := by
  unfold thinB
  simp; omega
theorem thin_no' {ss : List Strat} {j : Nat} {s : Strat} (h : ss[j]? = some s) (hs : 9 < s.seen.length) : thinB ss = false := by
  unfold thinB
  rw [not_all_of h (by simpa using hs)]
  simp

/-- A world that has come out of w by new blocks alone. -/
def Later (w : World) : Type := { x : World // Below w.heap.size w x }

instance later_nonempty (w : World) : Nonempty (Later w) := ⟨⟨w, Below.refl _ _⟩⟩

theorem wp_region_later {P : Program} {id : Nat} {Q : Exit → Act → World → Prop} {a : Act} {w : World} {l : List Oper} (hm : P.follows .mixedOrders = true) (hB : Region.lexB .any l.toArray = true)
    (h : wpQuiet P l.toArray (fun w' => ∃ x : Later w, w' = x.val) (fun a' => ∀ w', (∃ x : Later w, w' = x.val) → Q .normal a' w') l a) : (Code.region id l.toArray true).wp P Q a w :=
  wp_region_quiet (C := fun w' => ∃ x : Later w, w' = x.val) hm hB ⟨⟨w.drew, (Below.refl _ _).drew⟩, rfl⟩ (by simpa using h)

theorem Later.call {P : Program} {f : FuncId} {args : Array Value} {w : World} {x : Later w} {v : Value} (h : Calls P f args x.val (Gives x.val v)) :
    Calls P f args x.val fun e w'' => e = .returned v ∧ ∃ y : Later w, w'' = y.val :=
  h.mono fun _ w'' ⟨he, hb⟩ => ⟨he, ⟨w'', x.property.trans (hb.mono x.property.size)⟩, rfl⟩

theorem Later.cell {w : World} {p : Addr} {u : Value} (h : w.cell? p = some u) (x : Later w) : x.val.cell? p = some u := cell_below x.property h

/-- A call of a function value. -/
def CallsVal (P : Program) (f : Value) (args : Array Value) (w : World) (R : Ending → World → Prop) : Prop :=
  ∃ g az, (do let d ← Deferred.ofValue f args; invoke d.target d.args).run P w = .ok (.enter g az) w ∧ Calls P g az w R

theorem wpList_callv {P : Program} {w : World} {ops : Array Oper} {rest : List Oper} {o : Oper} {a : Act} {Q : Exit → Act → World → Prop} (x : Operand) (args : List Operand) (tys : Array TypeId) (hg : o.guard = none)
    (ho : o.op = .call { callee := .value x, args := args.toArray, argTypes := tys }) (f : Value) (hf : a.eval x = f) (az : List Value) (has : args.map a.eval = az) (v : Value)
    (hcall : CallsVal P f az.toArray w (Gives w v)) (hK : ∀ w', Below w.heap.size w w' → wpList P ops Q rest (a.put o.dst v) w') : wpList P ops Q (o :: rest) a w := by
  refine wpList_plain hg fun K hK' => ?_
  obtain ⟨g, az', hrun, hc⟩ := hcall
  unfold Oper.wp execOp
  simp only [ho, resolve, hf, List.map_toArray, has]
  simp only [Sem.run_bind] at hrun ⊢
  rw [hrun]
  simp only [Oper.upon_enter]
  refine hc.mono ?_
  rintro e w' ⟨rfl, hb⟩
  exact hK' _ _ (hK w' hb)

def ixOf {α : Type} (p : α → Bool) (l : List α) : Int := match l.findIdx? p with
  | some k => k
  | none => -1

theorem ixOf_hit {α : Type} {p : α → Bool} {l : List α} {k : Nat} {x : α} (hall : ∀ (j : Nat) (x : α), j < k → l[j]? = some x → p x = false) (hx : l[k]? = some x) (hp : p x = true) : ixOf p l = k := by
  unfold ixOf
  obtain ⟨hk, rfl⟩ := List.getElem?_eq_some_iff.1 hx
  have : l.findIdx? p = some k := by
    rw [List.findIdx?_eq_some_iff_getElem]
    exact ⟨hk, hp, fun j hj => by simp [hall j l[j] hj (List.getElem?_eq_getElem (by omega))]⟩
  rw [this]

theorem ixOf_none {α : Type} {p : α → Bool} {l : List α} (hall : ∀ (j : Nat) (x : α), j < l.length → l[j]? = some x → p x = false) : ixOf p l = -1 := by
  unfold ixOf
  have : l.findIdx? p = none := by
    rw [List.findIdx?_eq_none_iff]
    intro x hx
    obtain ⟨j, hj, rfl⟩ := List.getElem_of_mem hx
    exact hall j _ hj (List.getElem?_eq_getElem hj)
  rw [this]

theorem ixOf_any {α : Type} (p : α → Bool) (l : List α) : decide (0 ≤ ixOf p l) = l.any p := by
  unfold ixOf
  cases h : l.findIdx? p with
  | none =>
    rw [List.findIdx?_eq_none_iff] at h
    have e : l.any p = false := by
      rw [List.any_eq_false]
      intro x hx
      simp [h x hx]
    rw [e]
    rfl
  | some k =>
    obtain ⟨hk, hp, _⟩ := List.findIdx?_eq_some_iff_getElem.1 h
    rw [List.any_eq_true.2 ⟨l[k], List.getElem_mem hk, hp⟩]
    simp

theorem any_not {α : Type} (p : α → Bool) (l : List α) : (!(l.any fun x => !p x)) = l.all p := by
  induction l with
  | nil => rfl
  | cons a l ih => simp [List.any_cons, List.all_cons, ← ih]

theorem wp_name {P : Program} {c : Code} {Q : Exit → Act → World → Prop} {a : Act} {w : World} (F : World → Prop) (h : F w) (hk : ∀ W, F W → c.wp P Q a W) : c.wp P Q a w := hk w h

def sumL : List Int → Int
  | [] => 0
  | a :: l => a + sumL l

theorem sumL_append (a b : List Int) : sumL (a ++ b) = sumL a + sumL b := by
  induction a with
  | nil => simp [sumL]
  | cons x a ih => simp [sumL, ih]; omega

theorem sumL_take {l : List Int} {k : Nat} {x : Int} (h : l[k]? = some x) : sumL (l.take (k + 1)) = sumL (l.take k) + x := by
  obtain ⟨hk, rfl⟩ := List.getElem?_eq_some_iff.1 h
  rw [List.take_succ_eq_append_getElem hk, sumL_append]
  simp [sumL]

/-- All partial sums are far from the ends of int. -/
def SumOk (l : List Int) : Prop := ∀ k, k ≤ l.length → -4611686018427387904 ≤ sumL (l.take k) ∧ sumL (l.take k) ≤ 4611686018427387904

theorem sumL_bound {l : List Int} {M : Int} (hM : 0 ≤ M) (h : ∀ x ∈ l, 0 ≤ x ∧ x ≤ M) : 0 ≤ sumL l ∧ sumL l ≤ l.length * M := by
  induction l with
  | nil => simp [sumL]
  | cons a l ih =>
    have h1 := h a (by simp)
    have h2 := ih fun x hx => h x (by simp [hx])
    simp only [sumL, List.length_cons, Int.natCast_add, Int.add_mul]
    omega

theorem sumOk_of {l : List Int} (hn : l.length ≤ 1000) (h : ∀ x ∈ l, 0 ≤ x ∧ x ≤ 100000000000) : SumOk l := by
  intro k hk
  have h1 := sumL_bound (l := l.take k) (M := 100000000000) (by omega) fun x hx => h x (List.mem_of_mem_take hx)
  have h2 : (l.take k).length ≤ 1000 := by simp; omega
  omega

def stratB (n : Int) (s : Strat) : Bool :=
  inB s.coins 0 10000000 && (inB s.lo 0 400 && (inB s.hi 0 400 && (decide (s.lo ≤ s.hi) && (decide ((s.seen.length : Int) = n) && ((s.seen.all fun x => inB x 0 400) && decide (sumL s.seen ≤ s.lo))))))

def faultI (n : Int) (ss : List Strat) : Int := if 8 < ss.length then 3 else if inB n 1 5 && ss.all (stratB n) then 0 else 1

/-- A contract's Bool, known. -/
theorem Gives.to {P : Program} {f : FuncId} {args : Array Value} {w W : World} {a b : Bool} (e : a = b) (h : Calls P f args w (Gives W (.bool a))) : Calls P f args w (Gives W (.bool b)) := by
  rw [← e]; exact h
end Go.Proofs.Ytobeffjdfhkjeaa
namespace Go.Proofs.Ytobeffjdfhkjeaa
open Go Go.Proofs Go.RowKit

theorem thin_any (n : Int) (v : Value) (ss : List Strat) (w : World) (hS : StrataAt w v ss) :
    Calls Try.prog 16 #[.agg #[.int .i64 n, v]] w (Gives w (.bool (thinB ss))) := by
  obtain ⟨A, c, rfl, hc, hm, hS⟩ := hS
  unfold maxLen at hm
  go_enter Try.func16, Try.ntmps16
  go_wp2
  go_loop [3] (fun i => ∃ k : Nat, k ≤ ss.length ∧ k ≤ 13 ∧ i = .int .i64 k ∧ (∀ (j : Nat) (s : Strat), j < k → ss[j]? = some s → s.seen.length ≤ 9)) (fun i => ss.length - (intOf i).toNat)
  case atStart => exact ⟨0, by omega, by omega, rfl, by intro j s h; omega⟩
  case round =>
    obtain ⟨k, hk, hk13, rfl, hall⟩ := hrel
    have Hall := Lib.hid hall
    clear hall
    by_cases hlt : k < ss.length
    · by_cases h13 : k < 13
      · obtain ⟨b, o, rfl, hT⟩ := hS (by omega)
        obtain ⟨u, ⟨A', c', rfl, hc', hm', _⟩, c0, c1, c2, c3⟩ := hT k ss[k] (by simp [hlt])
        have hk0 : (k : Int) < 13 := by omega
        have hbw := World.block_lt_of_cell? _ _ c0
        unfold maxLen at hm'
        clear hS hT
        obtain ⟨s, hs⟩ : ∃ s, s = ss[k] := ⟨_, rfl⟩
        rw [← hs] at *
        have Hs := Lib.hid hs
        clear hs
        go_wp2
        · have h9 : 9 < (ss[k].seen.length : Int) := by assumption
          go_ret
          exact gives_bool (thin_no' (List.getElem?_eq_getElem hlt) (by omega)).symm ((Below.refl _ _).alloc (Nat.le_refl _) _)
        · have h9 : (ss[k].seen.length : Int) ≤ 9 := by assumption
          go_round
          case rel =>
            refine ⟨k + 1, by omega, by omega, by go_num, fun j s hj hs => ?_⟩
            by_cases e : j = k
            · subst e
              rw [List.getElem?_eq_getElem hlt] at hs
              cases hs
              omega
            · exact Hall.out j s (by omega) hs
          case measure => simp [intOf]; omega
      · go_wp2
        go_ret
        refine gives_bool ?_ ((Below.refl _ _).alloc (Nat.le_refl _) _)
        rw [thin_no (by omega)]
        simp; omega
    · go_wp2
      go_ret
      refine gives_bool ?_ ((Below.refl _ _).alloc (Nat.le_refl _) _)
      by_cases h12 : ss.length ≤ 12
      · rw [thin_yes h12 fun j s hj hs => Hall.out j s (by omega) hs]
        simp; omega
      · rw [thin_no (by omega)]
        simp; omega
end Go.Proofs.Ytobeffjdfhkjeaa
namespace Go.Proofs.Ytobeffjdfhkjeaa
open Go Go.Proofs Go.RowKit

/-! ### ints -/
theorem indexFunc_ints (fn : Fn) (fs cs : Array Value) (p : Int → Bool) (v : Value) (l : List Int) (w : World) (hv : NumsAt .i64 w v l)
    (hf : ∀ (k : Nat) (x : Int)  (w' : World), l[k]? = some x →  Below w.heap.size w w' → CallsVal Try.prog (.func fn fs cs) #[.int .i64 x] w' (Gives w' (.bool (p x)))) :
    Calls Try.prog 93 #[v, .func fn fs cs] w (Gives w (.int .i64 (ixOf p l))) := by
  obtain ⟨A, c, rfl, hc, hm, hT⟩ := hv
  unfold maxLen at hm
  have Hf := Lib.hid hf
  clear hf
  go_enter Try.func93, Try.ntmps93
  go_wp2
  go_loopw [5, 8] (fun i j wr => ∃ k : Nat, k ≤ l.length ∧ j = .int .i64 k ∧ Below w.heap.size w wr ∧ ∀ (j : Nat) (x : Int), j < k → l[j]? = some x → p x = false) (fun i j wr => l.length - (intOf j).toNat)
  case atStart => exact ⟨0, by omega, rfl, Below.refl _ _, by intro j x h; omega⟩
  case round =>
    obtain ⟨k, hk, rfl, hb, hall⟩ := hrel
    have Hall := Lib.hid hall
    clear hall
    by_cases hlt : k < l.length
    · obtain ⟨b, o, rfl, hT'⟩ := hT (by omega)
      obtain ⟨x, hx0⟩ : ∃ x, l[k]? = some x := ⟨_, List.getElem?_eq_getElem hlt⟩
      have hx := cell_below hb (hT' k hlt)
      rw [hx0] at hx
      simp only [Option.getD_some] at hx
      have Hc := Lib.hid (Hf.out k x wr hx0 hb)
      have Hx0 := Lib.hid hx0
      clear hx0 hT hT'
      go_wp2_with (refine wpList_callv (.tmp 11) [.tmp 15] #[3] rfl rfl (.func fn fs cs) rfl [.int .i64 x] rfl (.bool (p x)) Hc.out ?_; intro w2 hb2)
      · have hp : p x = true := by assumption
        go_ret
        exact gives_int (ixOf_hit Hall.out Hx0.out hp).symm (hb.trans (hb2.mono hb.size))
      · have hp : p x = false := by assumption
        go_roundw
        case rel =>
          refine ⟨k + 1, by omega, by go_num, hb.trans (hb2.mono hb.size), fun j y hj hy => ?_⟩
          by_cases e : j = k
          · subst e
            rw [Hx0.out] at hy
            cases hy
            exact hp
          · exact Hall.out j y (by omega) hy
        case measure => simp [intOf]; omega
    · go_wp2
      go_ret
      exact gives_int (ixOf_none fun j x hj hx => Hall.out j x (by omega) hx).symm hb

theorem containsFunc_ints (fn : Fn) (fs cs : Array Value) (p : Int → Bool) (v : Value) (l : List Int) (w : World) (hv : NumsAt .i64 w v l)
    (hf : ∀ (k : Nat) (x : Int)  (w' : World), l[k]? = some x →  Below w.heap.size w w' → CallsVal Try.prog (.func fn fs cs) #[.int .i64 x] w' (Gives w' (.bool (p x)))) :
    Calls Try.prog 85 #[v, .func fn fs cs] w (Gives w (.bool (l.any p))) := by
  have Hc := Lib.hid (indexFunc_ints fn fs cs p v l w hv hf)
  clear hf
  go_enter Try.func85, Try.ntmps85
  go_wp2_with (go_at_call 93; refine Hc.out.mono ?_; rintro e w' ⟨rfl, hb⟩)
  go_ret
  exact gives_bool (ixOf_any p l) hb

theorem all1_ints (B : Nat) (fn : Fn) (fs cs : Array Value) (b : Bool) (x : Int) (w : World) (hB : w.cell? ⟨B, 0, none⟩ = some (.func fn fs cs))
    (hf : ∀ (w' : World), Below w.heap.size w w' → CallsVal Try.prog (.func fn fs cs) #[.int .i64 x] w' (Gives w' (.bool b))) :
    CallsVal Try.prog (.func (.func 86) #[] #[.pointer (some ⟨B, 0, none⟩)]) #[.int .i64 x] w (Gives w (.bool (!b))) := by
  refine ⟨86, #[.int .i64 x, .pointer (some ⟨B, 0, none⟩)], by kernel_rfl, ?_⟩
  have hlt := World.block_lt_of_cell? _ _ hB
  have Hf := Lib.hid hf
  clear hf
  go_enter Try.func86, Try.ntmps86
  go_wp2_with (refine wpList_callv (.tmp 4) [.tmp 5] #[3] rfl rfl (.func fn fs cs) rfl [.int .i64 x] rfl (.bool b) (Hf.out _ (Below.refl _ _)) ?_; intro w2 hb2)
  go_ret
  exact ⟨rfl, hb2⟩

theorem all_ints (fn : Fn) (fs cs : Array Value) (p : Int → Bool) (v : Value) (l : List Int) (w : World) (hv : NumsAt .i64 w v l)
    (hf : ∀ (k : Nat) (x : Int)  (w' : World), l[k]? = some x →  Below w.heap.size w w' → CallsVal Try.prog (.func fn fs cs) #[.int .i64 x] w' (Gives w' (.bool (p x)))) :
    Calls Try.prog 69 #[v, .func fn fs cs] w (Gives w (.bool (l.all p))) := by
  have hb0 : Below w.heap.size w (w.alloc (.cells #[.func fn fs cs] 98)) := (Below.refl _ _).alloc (Nat.le_refl _) _
  have Hc := Lib.hid (containsFunc_ints (.func 86) #[] #[.pointer (some ⟨w.heap.size, 0, none⟩)] (fun x => !p x) v l (w.alloc (.cells #[.func fn fs cs] 98)) (hv.below hb0)
    (fun k x  w' hx  hb => all1_ints w.heap.size fn fs cs (p x) x w' (cell_below hb (by simp)) (fun w2 hb2 => hf k x  w2 hx  (hb0.trans ((hb.mono hb0.size).trans (hb2.mono (Nat.le_trans hb0.size hb.size)))))))
  clear hf
  go_enter Try.func69, Try.ntmps69
  go_wp2_with (go_at_call 85; refine Hc.out.mono ?_; rintro e w' ⟨rfl, hb⟩)
  go_ret
  exact gives_bool (any_not p l) (hb0.trans (hb.mono hb0.size))
end Go.Proofs.Ytobeffjdfhkjeaa
namespace Go.Proofs.Ytobeffjdfhkjeaa
open Go Go.Proofs Go.RowKit

/-! ### rows -/
theorem indexFunc_rows (fn : Fn) (fs cs : Array Value) (p : (List Int) → Bool) (v : Value) (l : List (List Int)) (w : World) (hv : RowsAt w v l)
    (hf : ∀ (k : Nat) (x : (List Int)) (u : Value) (w' : World), l[k]? = some x → NumsAt .i64 w' u x → Below w.heap.size w w' → CallsVal Try.prog (.func fn fs cs) #[u] w' (Gives w' (.bool (p x)))) :
    Calls Try.prog 104 #[v, .func fn fs cs] w (Gives w (.int .i64 (ixOf p l))) := by
  obtain ⟨A, c, rfl, hc, hm, hT⟩ := hv
  unfold maxLen at hm
  have Hf := Lib.hid hf
  clear hf
  go_enter Try.func104, Try.ntmps104
  go_wp2
  go_loopw [5, 8] (fun i j wr => ∃ k : Nat, k ≤ l.length ∧ j = .int .i64 k ∧ Below w.heap.size w wr ∧ ∀ (j : Nat) (x : (List Int)), j < k → l[j]? = some x → p x = false) (fun i j wr => l.length - (intOf j).toNat)
  case atStart => exact ⟨0, by omega, rfl, Below.refl _ _, by intro j x h; omega⟩
  case round =>
    obtain ⟨k, hk, rfl, hb, hall⟩ := hrel
    have Hall := Lib.hid hall
    clear hall
    by_cases hlt : k < l.length
    · obtain ⟨b, o, rfl, hT'⟩ := hT (by omega)
      obtain ⟨x, hx0⟩ : ∃ x, l[k]? = some x := ⟨_, List.getElem?_eq_getElem hlt⟩
      obtain ⟨u, hu, hx⟩ := hT' k hlt
      rw [hx0] at hx
      simp only [Option.getD_some] at hx
      have hx := cell_below hb hu
      have hn := NumsAt.below (by assumption) hb
      have Hc := Lib.hid (Hf.out k x u wr hx0 hn hb)
      have Hx0 := Lib.hid hx0
      clear hx0 hT hT'
      go_wp2_with (refine wpList_callv (.tmp 11) [.tmp 15] #[35] rfl rfl (.func fn fs cs) rfl [u] rfl (.bool (p x)) Hc.out ?_; intro w2 hb2)
      · have hp : p x = true := by assumption
        go_ret
        exact gives_int (ixOf_hit Hall.out Hx0.out hp).symm (hb.trans (hb2.mono hb.size))
      · have hp : p x = false := by assumption
        go_roundw
        case rel =>
          refine ⟨k + 1, by omega, by go_num, hb.trans (hb2.mono hb.size), fun j y hj hy => ?_⟩
          by_cases e : j = k
          · subst e
            rw [Hx0.out] at hy
            cases hy
            exact hp
          · exact Hall.out j y (by omega) hy
        case measure => simp [intOf]; omega
    · go_wp2
      go_ret
      exact gives_int (ixOf_none fun j x hj hx => Hall.out j x (by omega) hx).symm hb

theorem containsFunc_rows (fn : Fn) (fs cs : Array Value) (p : (List Int) → Bool) (v : Value) (l : List (List Int)) (w : World) (hv : RowsAt w v l)
    (hf : ∀ (k : Nat) (x : (List Int)) (u : Value) (w' : World), l[k]? = some x → NumsAt .i64 w' u x → Below w.heap.size w w' → CallsVal Try.prog (.func fn fs cs) #[u] w' (Gives w' (.bool (p x)))) :
    Calls Try.prog 90 #[v, .func fn fs cs] w (Gives w (.bool (l.any p))) := by
  have Hc := Lib.hid (indexFunc_rows fn fs cs p v l w hv hf)
  clear hf
  go_enter Try.func90, Try.ntmps90
  go_wp2_with (go_at_call 104; refine Hc.out.mono ?_; rintro e w' ⟨rfl, hb⟩)
  go_ret
  exact gives_bool (ixOf_any p l) hb

theorem all1_rows (B : Nat) (fn : Fn) (fs cs : Array Value) (b : Bool) (u : Value) (w : World) (hB : w.cell? ⟨B, 0, none⟩ = some (.func fn fs cs))
    (hf : ∀ (w' : World), Below w.heap.size w w' → CallsVal Try.prog (.func fn fs cs) #[u] w' (Gives w' (.bool b))) :
    CallsVal Try.prog (.func (.func 91) #[] #[.pointer (some ⟨B, 0, none⟩)]) #[u] w (Gives w (.bool (!b))) := by
  refine ⟨91, #[u, .pointer (some ⟨B, 0, none⟩)], by kernel_rfl, ?_⟩
  have hlt := World.block_lt_of_cell? _ _ hB
  have Hf := Lib.hid hf
  clear hf
  go_enter Try.func91, Try.ntmps91
  go_wp2_with (refine wpList_callv (.tmp 4) [.tmp 5] #[35] rfl rfl (.func fn fs cs) rfl [u] rfl (.bool b) (Hf.out _ (Below.refl _ _)) ?_; intro w2 hb2)
  go_ret
  exact ⟨rfl, hb2⟩

theorem all_rows (fn : Fn) (fs cs : Array Value) (p : (List Int) → Bool) (v : Value) (l : List (List Int)) (w : World) (hv : RowsAt w v l)
    (hf : ∀ (k : Nat) (x : (List Int)) (u : Value) (w' : World), l[k]? = some x → NumsAt .i64 w' u x → Below w.heap.size w w' → CallsVal Try.prog (.func fn fs cs) #[u] w' (Gives w' (.bool (p x)))) :
    Calls Try.prog 78 #[v, .func fn fs cs] w (Gives w (.bool (l.all p))) := by
  have hb0 : Below w.heap.size w (w.alloc (.cells #[.func fn fs cs] 112)) := (Below.refl _ _).alloc (Nat.le_refl _) _
  have Hc := Lib.hid (containsFunc_rows (.func 91) #[] #[.pointer (some ⟨w.heap.size, 0, none⟩)] (fun x => !p x) v l (w.alloc (.cells #[.func fn fs cs] 112)) (hv.below hb0)
    (fun k x u w' hx hn hb => all1_rows w.heap.size fn fs cs (p x) u w' (cell_below hb (by simp)) (fun w2 hb2 => hf k x u w2 hx (hn.below hb2) (hb0.trans ((hb.mono hb0.size).trans (hb2.mono (Nat.le_trans hb0.size hb.size)))))))
  clear hf
  go_enter Try.func78, Try.ntmps78
  go_wp2_with (go_at_call 90; refine Hc.out.mono ?_; rintro e w' ⟨rfl, hb⟩)
  go_ret
  exact gives_bool (any_not p l) (hb0.trans (hb.mono hb0.size))
end Go.Proofs.Ytobeffjdfhkjeaa
namespace Go.Proofs.Ytobeffjdfhkjeaa
open Go Go.Proofs Go.RowKit

/-! ### strata -/
theorem indexFunc_strata (fn : Fn) (fs cs : Array Value) (p : Strat → Bool) (v : Value) (l : List Strat) (w : World) (hv : StrataAt w v l)
    (hf : ∀ (k : Nat) (x : Strat) (u : Value) (w' : World), l[k]? = some x → NumsAt .i64 w' u x.seen → Below w.heap.size w w' → CallsVal Try.prog (.func fn fs cs) #[.agg #[.int .i64 x.coins, .int .i64 x.lo, .int .i64 x.hi, u]] w' (Gives w' (.bool (p x)))) :
    Calls Try.prog 89 #[v, .func fn fs cs] w (Gives w (.int .i64 (ixOf p l))) := by
  obtain ⟨A, c, rfl, hc, hm, hT⟩ := hv
  unfold maxLen at hm
  have Hf := Lib.hid hf
  clear hf
  go_enter Try.func89, Try.ntmps89
  go_wp2
  go_loopw [5, 8] (fun i j wr => ∃ k : Nat, k ≤ l.length ∧ j = .int .i64 k ∧ Below w.heap.size w wr ∧ ∀ (j : Nat) (x : Strat), j < k → l[j]? = some x → p x = false) (fun i j wr => l.length - (intOf j).toNat)
  case atStart => exact ⟨0, by omega, rfl, Below.refl _ _, by intro j x h; omega⟩
  case round =>
    obtain ⟨k, hk, rfl, hb, hall⟩ := hrel
    have Hall := Lib.hid hall
    clear hall
    by_cases hlt : k < l.length
    · obtain ⟨b, o, rfl, hT'⟩ := hT (by omega)
      obtain ⟨x, hx0⟩ : ∃ x, l[k]? = some x := ⟨_, List.getElem?_eq_getElem hlt⟩
      obtain ⟨u, hn, c0, c1, c2, c3⟩ := hT' k x hx0
      replace c0 := cell_below hb c0
      replace c1 := cell_below hb c1
      replace c2 := cell_below hb c2
      replace c3 := cell_below hb c3
      replace hn := hn.below hb
      have Hc := Lib.hid (Hf.out k x u wr hx0 hn hb)
      have Hx0 := Lib.hid hx0
      clear hx0 hT hT'
      go_wp2_with (refine wpList_callv (.tmp 11) [.tmp 15] #[86] rfl rfl (.func fn fs cs) rfl [.agg #[.int .i64 x.coins, .int .i64 x.lo, .int .i64 x.hi, u]] rfl (.bool (p x)) Hc.out ?_; intro w2 hb2)
      · have hp : p x = true := by assumption
        go_ret
        exact gives_int (ixOf_hit Hall.out Hx0.out hp).symm (hb.trans (hb2.mono hb.size))
      · have hp : p x = false := by assumption
        go_roundw
        case rel =>
          refine ⟨k + 1, by omega, by go_num, hb.trans (hb2.mono hb.size), fun j y hj hy => ?_⟩
          by_cases e : j = k
          · subst e
            rw [Hx0.out] at hy
            cases hy
            exact hp
          · exact Hall.out j y (by omega) hy
        case measure => simp [intOf]; omega
    · go_wp2
      go_ret
      exact gives_int (ixOf_none fun j x hj hx => Hall.out j x (by omega) hx).symm hb

theorem containsFunc_strata (fn : Fn) (fs cs : Array Value) (p : Strat → Bool) (v : Value) (l : List Strat) (w : World) (hv : StrataAt w v l)
    (hf : ∀ (k : Nat) (x : Strat) (u : Value) (w' : World), l[k]? = some x → NumsAt .i64 w' u x.seen → Below w.heap.size w w' → CallsVal Try.prog (.func fn fs cs) #[.agg #[.int .i64 x.coins, .int .i64 x.lo, .int .i64 x.hi, u]] w' (Gives w' (.bool (p x)))) :
    Calls Try.prog 75 #[v, .func fn fs cs] w (Gives w (.bool (l.any p))) := by
  have Hc := Lib.hid (indexFunc_strata fn fs cs p v l w hv hf)
  clear hf
  go_enter Try.func75, Try.ntmps75
  go_wp2_with (go_at_call 89; refine Hc.out.mono ?_; rintro e w' ⟨rfl, hb⟩)
  go_ret
  exact gives_bool (ixOf_any p l) hb

theorem all1_strata (B : Nat) (fn : Fn) (fs cs : Array Value) (b : Bool) (a b0 c : Int) (u : Value) (w : World) (hB : w.cell? ⟨B, 0, none⟩ = some (.func fn fs cs))
    (hf : ∀ (w' : World), Below w.heap.size w w' → CallsVal Try.prog (.func fn fs cs) #[.agg #[.int .i64 a, .int .i64 b0, .int .i64 c, u]] w' (Gives w' (.bool b))) :
    CallsVal Try.prog (.func (.func 76) #[] #[.pointer (some ⟨B, 0, none⟩)]) #[.agg #[.int .i64 a, .int .i64 b0, .int .i64 c, u]] w (Gives w (.bool (!b))) := by
  refine ⟨76, #[.agg #[.int .i64 a, .int .i64 b0, .int .i64 c, u], .pointer (some ⟨B, 0, none⟩)], by kernel_rfl, ?_⟩
  have hlt := World.block_lt_of_cell? _ _ hB
  have Hf := Lib.hid hf
  clear hf
  go_enter Try.func76, Try.ntmps76
  go_wp2_with (refine wpList_callv (.tmp 4) [.tmp 5] #[86] rfl rfl (.func fn fs cs) rfl [.agg #[.int .i64 a, .int .i64 b0, .int .i64 c, u]] rfl (.bool b) (Hf.out _ ((Below.refl _ _).alloc (Nat.le_refl _) _)) ?_; intro w2 hb2)
  go_ret
  exact ⟨rfl, ((Below.refl _ _).alloc (Nat.le_refl _) _).trans (hb2.mono (by simp))⟩

theorem all_strata (fn : Fn) (fs cs : Array Value) (p : Strat → Bool) (v : Value) (l : List Strat) (w : World) (hv : StrataAt w v l)
    (hf : ∀ (k : Nat) (x : Strat) (u : Value) (w' : World), l[k]? = some x → NumsAt .i64 w' u x.seen → Below w.heap.size w w' → CallsVal Try.prog (.func fn fs cs) #[.agg #[.int .i64 x.coins, .int .i64 x.lo, .int .i64 x.hi, u]] w' (Gives w' (.bool (p x)))) :
    Calls Try.prog 54 #[v, .func fn fs cs] w (Gives w (.bool (l.all p))) := by
  have hb0 : Below w.heap.size w (w.alloc (.cells #[.func fn fs cs] 88)) := (Below.refl _ _).alloc (Nat.le_refl _) _
  have Hc := Lib.hid (containsFunc_strata (.func 76) #[] #[.pointer (some ⟨w.heap.size, 0, none⟩)] (fun x => !p x) v l (w.alloc (.cells #[.func fn fs cs] 88)) (hv.below hb0)
    (fun k x u w' hx hn hb => all1_strata w.heap.size fn fs cs (p x) x.coins x.lo x.hi u w' (cell_below hb (by simp)) (fun w2 hb2 => hf k x u w2 hx (hn.below hb2) (hb0.trans ((hb.mono hb0.size).trans (hb2.mono (Nat.le_trans hb0.size hb.size)))))))
  clear hf
  go_enter Try.func54, Try.ntmps54
  go_wp2_with (go_at_call 75; refine Hc.out.mono ?_; rintro e w' ⟨rfl, hb⟩)
  go_ret
  exact gives_bool (any_not p l) (hb0.trans (hb.mono hb0.size))
end Go.Proofs.Ytobeffjdfhkjeaa
namespace Go.Proofs.Ytobeffjdfhkjeaa
open Go Go.Proofs Go.RowKit

theorem within_same (n lo hi : Int) (w : World) : Calls Try.prog 53 #[.int .i64 n, .int .i64 lo, .int .i64 hi] w (Same w (.bool (inB n lo hi))) := by
  by_cases h1 : lo ≤ n
  · by_cases h2 : n ≤ hi
    · have e : inB n lo hi = true := by simp [inB, h1, h2]
      rw [e]; clear e
      go_enter Try.func53, Try.ntmps53
      go_wp2
      go_ret
      exact ⟨rfl, rfl⟩
    · have e : inB n lo hi = false := by simp [inB, h2]
      rw [e]; clear e
      go_enter Try.func53, Try.ntmps53
      go_wp2
      go_ret
      exact ⟨rfl, rfl⟩
  · have e : inB n lo hi = false := by simp [inB, h1]
    rw [e]; clear e
    go_enter Try.func53, Try.ntmps53
    go_wp2
    go_ret
    exact ⟨rfl, rfl⟩

theorem In_same (n lo hi : Int) (w : World) : Calls Try.prog 40 #[.int .i64 n, .int .i64 lo, .int .i64 hi] w (Same w (.bool (inB n lo hi))) := by
  by_cases h1 : lo ≤ n
  · by_cases h2 : n ≤ hi
    · have e : inB n lo hi = true := by simp [inB, h1, h2]
      rw [e]; clear e
      go_enter Try.func40, Try.ntmps40
      go_wp2
      go_ret
      exact ⟨rfl, rfl⟩
    · have e : inB n lo hi = false := by simp [inB, h2]
      rw [e]; clear e
      go_enter Try.func40, Try.ntmps40
      go_wp2
      go_ret
      exact ⟨rfl, rfl⟩
  · have e : inB n lo hi = false := by simp [inB, h1]
    rw [e]; clear e
    go_enter Try.func40, Try.ntmps40
    go_wp2
    go_ret
    exact ⟨rfl, rfl⟩

theorem sum_same (v : Value) (l : List Int) (w : World) (hv : NumsAt .i64 w v l) (hok : SumOk l) : Calls Try.prog 59 #[v] w (Same w (.int .i64 (sumL l))) := by
  obtain ⟨A, c, rfl, hc, hm, hT⟩ := hv
  unfold maxLen at hm
  go_enter Try.func59, Try.ntmps59
  go_wp2
  go_loop [2, 7] (fun n j => ∃ k : Nat, k ≤ l.length ∧ j = .int .i64 k ∧ n = .int .i64 (sumL (l.take k))) (fun n j => l.length - (intOf j).toNat)
  case atStart => exact ⟨0, by omega, rfl, rfl⟩
  case round =>
    obtain ⟨k, hk, rfl, rfl⟩ := hrel
    by_cases hlt : k < l.length
    · obtain ⟨b, o, rfl, hT'⟩ := hT (by omega)
      obtain ⟨x, hx0⟩ : ∃ x, l[k]? = some x := ⟨_, List.getElem?_eq_getElem hlt⟩
      have hx := hT' k hlt
      rw [hx0] at hx
      simp only [Option.getD_some] at hx
      have hs := sumL_take hx0
      have h1 := hok (k + 1) (by omega)
      have h0 := hok k (by omega)
      rw [hs] at h1
      have Hs := Lib.hid hs
      clear hs hx0 hT hT'
      go_wp2
      go_round
      case rel => exact ⟨k + 1, by omega, by go_num, by rw [Hs.out]⟩
      case measure => simp [intOf]; omega
    · go_wp2
      go_ret
      exact same_int (by rw [List.take_of_length_le (by omega)])

theorem Sum_same (v : Value) (l : List Int) (w : World) (hv : NumsAt .i64 w v l) (hok : SumOk l) : Calls Try.prog 30 #[v] w (Same w (.int .i64 (sumL l))) := by
  obtain ⟨A, c, rfl, hc, hm, hT⟩ := hv
  unfold maxLen at hm
  go_enter Try.func30, Try.ntmps30
  go_wp2
  go_loop [3, 4] (fun n j => ∃ k : Nat, k ≤ l.length ∧ j = .int .i64 k ∧ n = .int .i64 (sumL (l.take k))) (fun n j => l.length - (intOf j).toNat)
  case atStart => exact ⟨0, by omega, rfl, rfl⟩
  case round =>
    obtain ⟨k, hk, rfl, rfl⟩ := hrel
    by_cases hlt : k < l.length
    · obtain ⟨b, o, rfl, hT'⟩ := hT (by omega)
      obtain ⟨x, hx0⟩ : ∃ x, l[k]? = some x := ⟨_, List.getElem?_eq_getElem hlt⟩
      have hx := hT' k hlt
      rw [hx0] at hx
      simp only [Option.getD_some] at hx
      have hs := sumL_take hx0
      have h1 := hok (k + 1) (by omega)
      have h0 := hok k (by omega)
      rw [hs] at h1
      have Hs := Lib.hid hs
      clear hs hx0 hT hT'
      go_wp2
      go_round
      case rel => exact ⟨k + 1, by omega, by go_num, by rw [Hs.out]⟩
      case measure => simp [intOf]; omega
    · go_wp2
      go_ret
      exact same_int (by rw [List.take_of_length_le (by omega)])

theorem journeys_same (n : Int) (w : World) : Calls Try.prog 77 #[.int .i64 n] w (Same w (.bool (inB n 0 400))) := by
  go_enter Try.func77, Try.ntmps77
  go_wp2_with (go_at_call 53; refine (within_same _ _ _ _).mono ?_; rintro e w' ⟨rfl, rfl⟩)
  go_ret
  exact ⟨rfl, rfl⟩

theorem within_any (n lo hi : Int) (w : World) : Calls Try.prog 53 #[.int .i64 n, .int .i64 lo, .int .i64 hi] w (Gives w (.bool (inB n lo hi))) := Same.gives (within_same n lo hi w)
theorem In_any (n lo hi : Int) (w : World) : Calls Try.prog 40 #[.int .i64 n, .int .i64 lo, .int .i64 hi] w (Gives w (.bool (inB n lo hi))) := Same.gives (In_same n lo hi w)
theorem journeys_any (n : Int) (w : World) : Calls Try.prog 77 #[.int .i64 n] w (Gives w (.bool (inB n 0 400))) := Same.gives (journeys_same n w)
theorem sum_any (v : Value) (l : List Int) (w : World) (hv : NumsAt .i64 w v l) (hok : SumOk l) : Calls Try.prog 59 #[v] w (Gives w (.int .i64 (sumL l))) := Same.gives (sum_same v l w hv hok)
theorem Sum_any (v : Value) (l : List Int) (w : World) (hv : NumsAt .i64 w v l) (hok : SumOk l) : Calls Try.prog 30 #[v] w (Gives w (.int .i64 (sumL l))) := Same.gives (Sum_same v l w hv hok)
end Go.Proofs.Ytobeffjdfhkjeaa
namespace Go.Proofs.Ytobeffjdfhkjeaa
open Go Go.Proofs Go.RowKit

theorem journeys_val (w : World) (x : Int) : CallsVal Try.prog (.func (.func 77) #[] #[]) #[.int .i64 x] w (Gives w (.bool (inB x 0 400))) :=
  ⟨77, #[.int .i64 x], by kernel_rfl, journeys_any x w⟩

theorem allJ_any (v : Value) (l : List Int) (w : World) (hv : NumsAt .i64 w v l) : Calls Try.prog 69 #[v, .func (.func 77) #[] #[]] w (Gives w (.bool (l.all fun x => inB x 0 400))) :=
  all_ints (.func 77) #[] #[] (fun x => inB x 0 400) v l w hv fun _ x w' _ _ => journeys_val w' x

set_option maxRecDepth 100000 in
theorem stratum_0 (n : Int) (ps : Value) (s : Strat) (u : Value) (w : World) (hn0 : 1 ≤ n) (hn : n ≤ 5) (hu : NumsAt .i64 w u s.seen)  (e1 : inB s.coins 0 10000000 = false) :
    Calls Try.prog 55 #[.agg #[.int .i64 n, ps], .agg #[.int .i64 s.coins, .int .i64 s.lo, .int .i64 s.hi, u]] w (Gives w (.bool false)) := by
  obtain ⟨A, c, rfl, hc, hm, hT⟩ := hu
  have hu : NumsAt .i64 w (.slice A s.seen.length c) s.seen := ⟨A, c, rfl, hc, hm, hT⟩
  clear hT
  unfold maxLen at hm
  go_enter Try.func55, Try.ntmps55
  go_wp2_with fail
  refine wp_name (fun W => Below w.heap.size w W ∧ W.cell? ⟨w.heap.size, 0, none⟩ = some (.int .i64 n) ∧ W.cell? ⟨w.heap.size + 1, 0, none⟩ = some (.int .i64 s.coins) ∧
    W.cell? ⟨w.heap.size + 1, 3, none⟩ = some (.slice A s.seen.length c) ∧ W.cell? ⟨w.heap.size + 1 + 1, 0, none⟩ = some (.int .i64 s.lo) ∧ W.cell? ⟨w.heap.size + 1 + 1, 1, none⟩ = some (.int .i64 s.hi)) ?_ (fun W hF => ?_)
  · exact ⟨(((Below.refl _ _).alloc (Nat.le_refl _) _).alloc (by simp) _).alloc (by simp; omega) _, by simp [go_sem], by simp [go_sem], by simp [go_sem], by simp [go_sem], by simp [go_sem]⟩
  obtain ⟨hW, c0, c1, c2, c3, c4⟩ := hF
  have huW := hu.below hW
  replace c0 := Later.cell c0
  replace c1 := Later.cell c1
  replace c2 := Later.cell c2
  replace c3 := Later.cell c3
  replace c4 := Later.cell c4
  refine wp_region_later (by kernel_rfl) (by kernel_rfl) ?_
  repeat (go_big_quiet_step (first
    | (go_at_call 53; exact Later.call (Gives.to (by assumption) (within_any _ _ _ _)))
    | (go_at_call 77; exact Later.call (Gives.to (by assumption) (journeys_any _ _)))
    | (go_at_call 69; exact Later.call (Gives.to (by assumption) (allJ_any _ _ _ (huW.below (Subtype.property _)))))))
  refine wpQuiet_nil ?_
  rintro _ ⟨⟨w2, hb2⟩, rfl⟩
  go_wp2
  go_ret
  exact ⟨rfl, hW.trans (hb2.mono hW.size)⟩

set_option maxRecDepth 100000 in
theorem stratum_1 (n : Int) (ps : Value) (s : Strat) (u : Value) (w : World) (hn0 : 1 ≤ n) (hn : n ≤ 5) (hu : NumsAt .i64 w u s.seen) (e1 : inB s.coins 0 10000000 = true) (e2 : inB s.lo 0 400 = false) :
    Calls Try.prog 55 #[.agg #[.int .i64 n, ps], .agg #[.int .i64 s.coins, .int .i64 s.lo, .int .i64 s.hi, u]] w (Gives w (.bool false)) := by
  obtain ⟨A, c, rfl, hc, hm, hT⟩ := hu
  have hu : NumsAt .i64 w (.slice A s.seen.length c) s.seen := ⟨A, c, rfl, hc, hm, hT⟩
  clear hT
  unfold maxLen at hm
  go_enter Try.func55, Try.ntmps55
  go_wp2_with fail
  refine wp_name (fun W => Below w.heap.size w W ∧ W.cell? ⟨w.heap.size, 0, none⟩ = some (.int .i64 n) ∧ W.cell? ⟨w.heap.size + 1, 0, none⟩ = some (.int .i64 s.coins) ∧
    W.cell? ⟨w.heap.size + 1, 3, none⟩ = some (.slice A s.seen.length c) ∧ W.cell? ⟨w.heap.size + 1 + 1, 0, none⟩ = some (.int .i64 s.lo) ∧ W.cell? ⟨w.heap.size + 1 + 1, 1, none⟩ = some (.int .i64 s.hi)) ?_ (fun W hF => ?_)
  · exact ⟨(((Below.refl _ _).alloc (Nat.le_refl _) _).alloc (by simp) _).alloc (by simp; omega) _, by simp [go_sem], by simp [go_sem], by simp [go_sem], by simp [go_sem], by simp [go_sem]⟩
  obtain ⟨hW, c0, c1, c2, c3, c4⟩ := hF
  have huW := hu.below hW
  replace c0 := Later.cell c0
  replace c1 := Later.cell c1
  replace c2 := Later.cell c2
  replace c3 := Later.cell c3
  replace c4 := Later.cell c4
  refine wp_region_later (by kernel_rfl) (by kernel_rfl) ?_
  repeat (go_big_quiet_step (first
    | (go_at_call 53; exact Later.call (Gives.to (by assumption) (within_any _ _ _ _)))
    | (go_at_call 77; exact Later.call (Gives.to (by assumption) (journeys_any _ _)))
    | (go_at_call 69; exact Later.call (Gives.to (by assumption) (allJ_any _ _ _ (huW.below (Subtype.property _)))))))
  refine wpQuiet_nil ?_
  rintro _ ⟨⟨w2, hb2⟩, rfl⟩
  go_wp2
  go_ret
  exact ⟨rfl, hW.trans (hb2.mono hW.size)⟩

set_option maxRecDepth 100000 in
theorem stratum_2 (n : Int) (ps : Value) (s : Strat) (u : Value) (w : World) (hn0 : 1 ≤ n) (hn : n ≤ 5) (hu : NumsAt .i64 w u s.seen) (e1 : inB s.coins 0 10000000 = true) (e2 : inB s.lo 0 400 = true) (e3 : inB s.hi 0 400 = false) :
    Calls Try.prog 55 #[.agg #[.int .i64 n, ps], .agg #[.int .i64 s.coins, .int .i64 s.lo, .int .i64 s.hi, u]] w (Gives w (.bool false)) := by
  obtain ⟨A, c, rfl, hc, hm, hT⟩ := hu
  have hu : NumsAt .i64 w (.slice A s.seen.length c) s.seen := ⟨A, c, rfl, hc, hm, hT⟩
  clear hT
  unfold maxLen at hm
  go_enter Try.func55, Try.ntmps55
  go_wp2_with fail
  refine wp_name (fun W => Below w.heap.size w W ∧ W.cell? ⟨w.heap.size, 0, none⟩ = some (.int .i64 n) ∧ W.cell? ⟨w.heap.size + 1, 0, none⟩ = some (.int .i64 s.coins) ∧
    W.cell? ⟨w.heap.size + 1, 3, none⟩ = some (.slice A s.seen.length c) ∧ W.cell? ⟨w.heap.size + 1 + 1, 0, none⟩ = some (.int .i64 s.lo) ∧ W.cell? ⟨w.heap.size + 1 + 1, 1, none⟩ = some (.int .i64 s.hi)) ?_ (fun W hF => ?_)
  · exact ⟨(((Below.refl _ _).alloc (Nat.le_refl _) _).alloc (by simp) _).alloc (by simp; omega) _, by simp [go_sem], by simp [go_sem], by simp [go_sem], by simp [go_sem], by simp [go_sem]⟩
  obtain ⟨hW, c0, c1, c2, c3, c4⟩ := hF
  have huW := hu.below hW
  replace c0 := Later.cell c0
  replace c1 := Later.cell c1
  replace c2 := Later.cell c2
  replace c3 := Later.cell c3
  replace c4 := Later.cell c4
  refine wp_region_later (by kernel_rfl) (by kernel_rfl) ?_
  repeat (go_big_quiet_step (first
    | (go_at_call 53; exact Later.call (Gives.to (by assumption) (within_any _ _ _ _)))
    | (go_at_call 77; exact Later.call (Gives.to (by assumption) (journeys_any _ _)))
    | (go_at_call 69; exact Later.call (Gives.to (by assumption) (allJ_any _ _ _ (huW.below (Subtype.property _)))))))
  refine wpQuiet_nil ?_
  rintro _ ⟨⟨w2, hb2⟩, rfl⟩
  go_wp2
  go_ret
  exact ⟨rfl, hW.trans (hb2.mono hW.size)⟩

set_option maxRecDepth 100000 in
theorem stratum_3 (n : Int) (ps : Value) (s : Strat) (u : Value) (w : World) (hn0 : 1 ≤ n) (hn : n ≤ 5) (hu : NumsAt .i64 w u s.seen) (e1 : inB s.coins 0 10000000 = true) (e2 : inB s.lo 0 400 = true) (e3 : inB s.hi 0 400 = true) (e4 : decide (s.lo ≤ s.hi) = false) :
    Calls Try.prog 55 #[.agg #[.int .i64 n, ps], .agg #[.int .i64 s.coins, .int .i64 s.lo, .int .i64 s.hi, u]] w (Gives w (.bool false)) := by
  obtain ⟨A, c, rfl, hc, hm, hT⟩ := hu
  have hu : NumsAt .i64 w (.slice A s.seen.length c) s.seen := ⟨A, c, rfl, hc, hm, hT⟩
  clear hT
  unfold maxLen at hm
  go_enter Try.func55, Try.ntmps55
  go_wp2_with fail
  refine wp_name (fun W => Below w.heap.size w W ∧ W.cell? ⟨w.heap.size, 0, none⟩ = some (.int .i64 n) ∧ W.cell? ⟨w.heap.size + 1, 0, none⟩ = some (.int .i64 s.coins) ∧
    W.cell? ⟨w.heap.size + 1, 3, none⟩ = some (.slice A s.seen.length c) ∧ W.cell? ⟨w.heap.size + 1 + 1, 0, none⟩ = some (.int .i64 s.lo) ∧ W.cell? ⟨w.heap.size + 1 + 1, 1, none⟩ = some (.int .i64 s.hi)) ?_ (fun W hF => ?_)
  · exact ⟨(((Below.refl _ _).alloc (Nat.le_refl _) _).alloc (by simp) _).alloc (by simp; omega) _, by simp [go_sem], by simp [go_sem], by simp [go_sem], by simp [go_sem], by simp [go_sem]⟩
  obtain ⟨hW, c0, c1, c2, c3, c4⟩ := hF
  have huW := hu.below hW
  replace c0 := Later.cell c0
  replace c1 := Later.cell c1
  replace c2 := Later.cell c2
  replace c3 := Later.cell c3
  replace c4 := Later.cell c4
  refine wp_region_later (by kernel_rfl) (by kernel_rfl) ?_
  repeat (go_big_quiet_step (first
    | (go_at_call 53; exact Later.call (Gives.to (by assumption) (within_any _ _ _ _)))
    | (go_at_call 77; exact Later.call (Gives.to (by assumption) (journeys_any _ _)))
    | (go_at_call 69; exact Later.call (Gives.to (by assumption) (allJ_any _ _ _ (huW.below (Subtype.property _)))))))
  refine wpQuiet_nil ?_
  rintro _ ⟨⟨w2, hb2⟩, rfl⟩
  go_wp2
  go_ret
  exact ⟨rfl, hW.trans (hb2.mono hW.size)⟩

set_option maxRecDepth 100000 in
theorem stratum_4 (n : Int) (ps : Value) (s : Strat) (u : Value) (w : World) (hn0 : 1 ≤ n) (hn : n ≤ 5) (hu : NumsAt .i64 w u s.seen) (e1 : inB s.coins 0 10000000 = true) (e2 : inB s.lo 0 400 = true) (e3 : inB s.hi 0 400 = true) (e4 : decide (s.lo ≤ s.hi) = true) (e5 : ((s.seen.length : Int) == n) = false) :
    Calls Try.prog 55 #[.agg #[.int .i64 n, ps], .agg #[.int .i64 s.coins, .int .i64 s.lo, .int .i64 s.hi, u]] w (Gives w (.bool false)) := by
  obtain ⟨A, c, rfl, hc, hm, hT⟩ := hu
  have hu : NumsAt .i64 w (.slice A s.seen.length c) s.seen := ⟨A, c, rfl, hc, hm, hT⟩
  clear hT
  unfold maxLen at hm
  go_enter Try.func55, Try.ntmps55
  go_wp2_with fail
  refine wp_name (fun W => Below w.heap.size w W ∧ W.cell? ⟨w.heap.size, 0, none⟩ = some (.int .i64 n) ∧ W.cell? ⟨w.heap.size + 1, 0, none⟩ = some (.int .i64 s.coins) ∧
    W.cell? ⟨w.heap.size + 1, 3, none⟩ = some (.slice A s.seen.length c) ∧ W.cell? ⟨w.heap.size + 1 + 1, 0, none⟩ = some (.int .i64 s.lo) ∧ W.cell? ⟨w.heap.size + 1 + 1, 1, none⟩ = some (.int .i64 s.hi)) ?_ (fun W hF => ?_)
  · exact ⟨(((Below.refl _ _).alloc (Nat.le_refl _) _).alloc (by simp) _).alloc (by simp; omega) _, by simp [go_sem], by simp [go_sem], by simp [go_sem], by simp [go_sem], by simp [go_sem]⟩
  obtain ⟨hW, c0, c1, c2, c3, c4⟩ := hF
  have huW := hu.below hW
  replace c0 := Later.cell c0
  replace c1 := Later.cell c1
  replace c2 := Later.cell c2
  replace c3 := Later.cell c3
  replace c4 := Later.cell c4
  refine wp_region_later (by kernel_rfl) (by kernel_rfl) ?_
  repeat (go_big_quiet_step (first
    | (go_at_call 53; exact Later.call (Gives.to (by assumption) (within_any _ _ _ _)))
    | (go_at_call 77; exact Later.call (Gives.to (by assumption) (journeys_any _ _)))
    | (go_at_call 69; exact Later.call (Gives.to (by assumption) (allJ_any _ _ _ (huW.below (Subtype.property _)))))))
  refine wpQuiet_nil ?_
  rintro _ ⟨⟨w2, hb2⟩, rfl⟩
  go_wp2
  go_ret
  exact ⟨rfl, hW.trans (hb2.mono hW.size)⟩

set_option maxRecDepth 100000 in
theorem stratum_5 (n : Int) (ps : Value) (s : Strat) (u : Value) (w : World) (hn0 : 1 ≤ n) (hn : n ≤ 5) (hu : NumsAt .i64 w u s.seen) (e1 : inB s.coins 0 10000000 = true) (e2 : inB s.lo 0 400 = true) (e3 : inB s.hi 0 400 = true) (e4 : decide (s.lo ≤ s.hi) = true) (e5 : ((s.seen.length : Int) == n) = true) (e6 : (s.seen.all fun x => inB x 0 400) = false) :
    Calls Try.prog 55 #[.agg #[.int .i64 n, ps], .agg #[.int .i64 s.coins, .int .i64 s.lo, .int .i64 s.hi, u]] w (Gives w (.bool false)) := by
  obtain ⟨A, c, rfl, hc, hm, hT⟩ := hu
  have hu : NumsAt .i64 w (.slice A s.seen.length c) s.seen := ⟨A, c, rfl, hc, hm, hT⟩
  clear hT
  unfold maxLen at hm
  go_enter Try.func55, Try.ntmps55
  go_wp2_with fail
  refine wp_name (fun W => Below w.heap.size w W ∧ W.cell? ⟨w.heap.size, 0, none⟩ = some (.int .i64 n) ∧ W.cell? ⟨w.heap.size + 1, 0, none⟩ = some (.int .i64 s.coins) ∧
    W.cell? ⟨w.heap.size + 1, 3, none⟩ = some (.slice A s.seen.length c) ∧ W.cell? ⟨w.heap.size + 1 + 1, 0, none⟩ = some (.int .i64 s.lo) ∧ W.cell? ⟨w.heap.size + 1 + 1, 1, none⟩ = some (.int .i64 s.hi)) ?_ (fun W hF => ?_)
  · exact ⟨(((Below.refl _ _).alloc (Nat.le_refl _) _).alloc (by simp) _).alloc (by simp; omega) _, by simp [go_sem], by simp [go_sem], by simp [go_sem], by simp [go_sem], by simp [go_sem]⟩
  obtain ⟨hW, c0, c1, c2, c3, c4⟩ := hF
  have huW := hu.below hW
  replace c0 := Later.cell c0
  replace c1 := Later.cell c1
  replace c2 := Later.cell c2
  replace c3 := Later.cell c3
  replace c4 := Later.cell c4
  refine wp_region_later (by kernel_rfl) (by kernel_rfl) ?_
  repeat (go_big_quiet_step (first
    | (go_at_call 53; exact Later.call (Gives.to (by assumption) (within_any _ _ _ _)))
    | (go_at_call 77; exact Later.call (Gives.to (by assumption) (journeys_any _ _)))
    | (go_at_call 69; exact Later.call (Gives.to (by assumption) (allJ_any _ _ _ (huW.below (Subtype.property _)))))))
  refine wpQuiet_nil ?_
  rintro _ ⟨⟨w2, hb2⟩, rfl⟩
  go_wp2
  go_ret
  exact ⟨rfl, hW.trans (hb2.mono hW.size)⟩

set_option maxRecDepth 100000 in
theorem stratum_6 (n : Int) (ps : Value) (s : Strat) (u : Value) (w : World) (hn0 : 1 ≤ n) (hn : n ≤ 5) (hu : NumsAt .i64 w u s.seen) (e1 : inB s.coins 0 10000000 = true) (e2 : inB s.lo 0 400 = true) (e3 : inB s.hi 0 400 = true) (e4 : decide (s.lo ≤ s.hi) = true) (e5 : ((s.seen.length : Int) == n) = true) (e6 : (s.seen.all fun x => inB x 0 400) = true) :
    Calls Try.prog 55 #[.agg #[.int .i64 n, ps], .agg #[.int .i64 s.coins, .int .i64 s.lo, .int .i64 s.hi, u]] w (Gives w (.bool (decide (sumL s.seen ≤ s.lo)))) := by
  have hok : SumOk s.seen := sumOk_of (by simp at e5; omega) (by
    intro x hx
    have := List.all_eq_true.1 e6 x hx
    simp [inB] at this
    omega)
  obtain ⟨A, c, rfl, hc, hm, hT⟩ := hu
  have hu : NumsAt .i64 w (.slice A s.seen.length c) s.seen := ⟨A, c, rfl, hc, hm, hT⟩
  clear hT
  unfold maxLen at hm
  go_enter Try.func55, Try.ntmps55
  go_wp2_with fail
  refine wp_name (fun W => Below w.heap.size w W ∧ W.cell? ⟨w.heap.size, 0, none⟩ = some (.int .i64 n) ∧ W.cell? ⟨w.heap.size + 1, 0, none⟩ = some (.int .i64 s.coins) ∧
    W.cell? ⟨w.heap.size + 1, 3, none⟩ = some (.slice A s.seen.length c) ∧ W.cell? ⟨w.heap.size + 1 + 1, 0, none⟩ = some (.int .i64 s.lo) ∧ W.cell? ⟨w.heap.size + 1 + 1, 1, none⟩ = some (.int .i64 s.hi)) ?_ (fun W hF => ?_)
  · exact ⟨(((Below.refl _ _).alloc (Nat.le_refl _) _).alloc (by simp) _).alloc (by simp; omega) _, by simp [go_sem], by simp [go_sem], by simp [go_sem], by simp [go_sem], by simp [go_sem]⟩
  obtain ⟨hW, c0, c1, c2, c3, c4⟩ := hF
  have huW := hu.below hW
  replace c0 := Later.cell c0
  replace c1 := Later.cell c1
  replace c2 := Later.cell c2
  replace c3 := Later.cell c3
  replace c4 := Later.cell c4
  refine wp_region_later (by kernel_rfl) (by kernel_rfl) ?_
  repeat (go_big_quiet_step (first
    | (go_at_call 53; exact Later.call (Gives.to (by assumption) (within_any _ _ _ _)))
    | (go_at_call 77; exact Later.call (Gives.to (by assumption) (journeys_any _ _)))
    | (go_at_call 69; exact Later.call (Gives.to (by assumption) (allJ_any _ _ _ (huW.below (Subtype.property _)))))
    | (go_at_call 59; exact Later.call (sum_any _ _ _ (huW.below (Subtype.property _)) hok))))
  refine wpQuiet_nil ?_
  rintro _ ⟨⟨w2, hb2⟩, rfl⟩
  go_wp2
  go_ret
  exact ⟨rfl, hW.trans (hb2.mono hW.size)⟩

theorem stratum_any (n : Int) (ps : Value) (s : Strat) (u : Value) (w : World) (hn0 : 1 ≤ n) (hn : n ≤ 5) (hu : NumsAt .i64 w u s.seen) :
    Calls Try.prog 55 #[.agg #[.int .i64 n, ps], .agg #[.int .i64 s.coins, .int .i64 s.lo, .int .i64 s.hi, u]] w (Gives w (.bool (stratB n s))) := by
  have e5 : decide ((s.seen.length : Int) = n) = ((s.seen.length : Int) == n) := by rw [Bool.eq_iff_iff]; simp
  cases h1 : inB s.coins 0 10000000 with
  | false => exact Gives.to (by simp [stratB, e5, h1]) (stratum_0 n ps s u w hn0 hn hu h1)
  | true =>
    cases h2 : inB s.lo 0 400 with
    | false => exact Gives.to (by simp [stratB, e5, h1, h2]) (stratum_1 n ps s u w hn0 hn hu h1 h2)
    | true =>
      cases h3 : inB s.hi 0 400 with
      | false => exact Gives.to (by simp [stratB, e5, h1, h2, h3]) (stratum_2 n ps s u w hn0 hn hu h1 h2 h3)
      | true =>
        cases h4 : decide (s.lo ≤ s.hi) with
        | false => exact Gives.to (by simp [stratB, e5, h1, h2, h3, h4]) (stratum_3 n ps s u w hn0 hn hu h1 h2 h3 h4)
        | true =>
          cases h5 : ((s.seen.length : Int) == n) with
          | false => exact Gives.to (by simp [stratB, e5, h1, h2, h3, h4, h5]) (stratum_4 n ps s u w hn0 hn hu h1 h2 h3 h4 h5)
          | true =>
            cases h6 : (s.seen.all fun x => inB x 0 400) with
            | false => exact Gives.to (by simp [stratB, e5, h1, h2, h3, h4, h5, h6]) (stratum_5 n ps s u w hn0 hn hu h1 h2 h3 h4 h5 h6)
            | true =>
              exact Gives.to (by simp only [stratB, e5, h1, h2, h3, h4, h5, h6, Bool.true_and]) (stratum_6 n ps s u w hn0 hn hu h1 h2 h3 h4 h5 h6)
end Go.Proofs.Ytobeffjdfhkjeaa
namespace Go.Proofs.Ytobeffjdfhkjeaa
open Go Go.Proofs Go.RowKit

theorem allStratum_any (n : Int) (ps v : Value) (ss : List Strat) (w : World) (hn0 : 1 ≤ n) (hn : n ≤ 5) (hv : StrataAt w v ss) :
    Calls Try.prog 54 #[v, .func (.func 55) #[.agg #[.int .i64 n, ps]] #[]] w (Gives w (.bool (ss.all (stratB n)))) :=
  all_strata (.func 55) #[.agg #[.int .i64 n, ps]] #[] (stratB n) v ss w hv fun _ x u w' _ hu _ =>
    ⟨55, #[.agg #[.int .i64 n, ps], .agg #[.int .i64 x.coins, .int .i64 x.lo, .int .i64 x.hi, u]], by kernel_rfl, stratum_any n ps x u w' hn0 hn hu⟩

theorem checkPool_any (n : Int) (v : Value) (ss : List Strat) (w : World) (hv : StrataAt w v ss) :
    Calls Try.prog 19 #[.agg #[.int .i64 n, v]] w (Gives w (.int .i64 (faultI n ss))) := by
  have hb0 : Below w.heap.size w (w.alloc (.cells #[.int .i64 n, v] 33)) := (Below.refl _ _).alloc (Nat.le_refl _) _
  have hv0 := hv.below hb0
  obtain ⟨A, c, rfl, hc, hm, _⟩ := hv
  unfold maxLen at hm
  by_cases h8 : 8 < ss.length
  · have e : faultI n ss = 3 := by simp [faultI, h8]
    rw [e]; clear e
    go_enter Try.func19, Try.ntmps19
    go_wp2
    go_ret
    exact ⟨rfl, hb0⟩
  · cases h1 : inB n 1 5 with
    | false =>
      have e : faultI n ss = 1 := by simp [faultI, h8, h1]
      rw [e]; clear e
      go_enter Try.func19, Try.ntmps19
      go_wp2_with (go_at_call 53; refine (Same.to h1 (within_same _ _ _ _)).mono ?_; rintro e w' ⟨rfl, rfl⟩)
      go_ret
      exact ⟨rfl, hb0⟩
    | true =>
      have hn : 1 ≤ n ∧ n ≤ 5 := by simpa [inB] using h1
      cases h2 : ss.all (stratB n)
      · have e : faultI n ss = 1 := by simp [faultI, h8, h1, h2]
        rw [e]; clear e
        go_enter Try.func19, Try.ntmps19
        go_wp2_with (first
          | (go_at_call 53; refine (Same.to h1 (within_same _ _ _ _)).mono ?_; rintro e w1 ⟨rfl, rfl⟩)
          | (go_at_call 54; refine (Gives.to h2 (allStratum_any n _ _ ss _ hn.1 hn.2 hv0)).mono ?_; rintro e w1 ⟨rfl, hb1⟩))
        go_ret
        exact ⟨rfl, hb0.trans (hb1.mono hb0.size)⟩
      · have e : faultI n ss = 0 := by simp [faultI, h8, h1, h2]
        rw [e]; clear e
        go_enter Try.func19, Try.ntmps19
        go_wp2_with (first
          | (go_at_call 53; refine (Same.to h1 (within_same _ _ _ _)).mono ?_; rintro e w1 ⟨rfl, rfl⟩)
          | (go_at_call 54; refine (Gives.to h2 (allStratum_any n _ _ ss _ hn.1 hn.2 hv0)).mono ?_; rintro e w1 ⟨rfl, hb1⟩))
        go_ret
        exact ⟨rfl, hb0.trans (hb1.mono hb0.size)⟩
end Go.Proofs.Ytobeffjdfhkjeaa
namespace Go.Proofs.Ytobeffjdfhkjeaa
open Go Go.RowKit

theorem Later.out {w w' : World} (h : ∃ x : Later w, w' = x.val) : Below w.heap.size w w' := by
  obtain ⟨x, rfl⟩ := h
  exact x.property

theorem inB_iff {n lo hi : Int} : inB n lo hi = true ↔ lo ≤ n ∧ n ≤ hi := by simp [inB]

theorem stratB_iff {n : Int} {s : Strat} : stratB n s = true ↔ (0 ≤ s.coins ∧ s.coins ≤ 10000000) ∧ 0 ≤ s.lo ∧ s.lo ≤ s.hi ∧ s.hi ≤ 400 ∧ (s.seen.length : Int) = n ∧
    (∀ (j : Nat) (x : Int), s.seen[j]? = some x → 0 ≤ x ∧ x ≤ 400) ∧ sumL s.seen ≤ s.lo := by
  have e : (s.seen.all fun x => inB x 0 400) = true ↔ ∀ (j : Nat) (x : Int), s.seen[j]? = some x → 0 ≤ x ∧ x ≤ 400 := by
    constructor
    · intro h j x hx
      exact inB_iff.1 (List.all_eq_true.1 h x (List.mem_of_getElem? hx))
    · intro h
      exact all_of fun j x _ hx => inB_iff.2 (h j x hx)
  unfold stratB
  simp only [Bool.and_eq_true, inB_iff, decide_eq_true_eq, e]
  constructor
  · rintro ⟨a, b, c, d, e, f, g⟩
    exact ⟨a, b.1, d, c.2, e, f, g⟩
  · rintro ⟨a, b, c, d, e, f, g⟩
    exact ⟨a, ⟨b, by omega⟩, ⟨by omega, d⟩, c, e, f, g⟩

theorem stratB_no {n : Int} {s : Strat} (h : ¬ ((0 ≤ s.coins ∧ s.coins ≤ 10000000) ∧ 0 ≤ s.lo ∧ s.lo ≤ s.hi ∧ s.hi ≤ 400 ∧ (s.seen.length : Int) = n ∧
    (∀ (j : Nat) (x : Int), s.seen[j]? = some x → 0 ≤ x ∧ x ≤ 400) ∧ sumL s.seen ≤ s.lo)) : stratB n s = false := by
  rw [Bool.eq_false_iff]
  exact fun e => h (stratB_iff.1 e)

theorem fault_many {n : Int} {ss : List Strat} (h : 8 < ss.length) : faultI n ss = 3 := by simp [faultI, h]
theorem fault_n {n : Int} {ss : List Strat} (h8 : ¬ 8 < ss.length) (h : inB n 1 5 = false) : faultI n ss = 1 := by simp [faultI, h8, h]
theorem fault_bad {n : Int} {ss : List Strat} {k : Nat} {s : Strat} (h8 : ¬ 8 < ss.length) (hs : ss[k]? = some s) (hb : stratB n s = false) : faultI n ss = 1 := by
  simp only [faultI, h8, if_false]
  rw [not_all_of hs hb]
  simp
theorem fault_ok {n : Int} {ss : List Strat} (h8 : ¬ 8 < ss.length) (h : inB n 1 5 = true) (hall : ∀ (j : Nat) (s : Strat), j < ss.length → ss[j]? = some s → stratB n s = true) : faultI n ss = 0 := by
  simp only [faultI, h8, if_false, h]
  rw [all_of hall]
  simp
theorem fault_zero {n : Int} {ss : List Strat} (h : faultI n ss = 0) : ss.length ≤ 8 ∧ 1 ≤ n ∧ n ≤ 5 ∧ ∀ (j : Nat) (s : Strat), ss[j]? = some s → stratB n s = true := by
  unfold faultI at h
  split at h
  · cases h
  · split at h
    · rename_i h8 hh
      simp only [Bool.and_eq_true] at hh
      have := inB_iff.1 hh.1
      exact ⟨by omega, this.1, this.2, fun j s hs => List.all_eq_true.1 hh.2 s (List.mem_of_getElem? hs)⟩
    · cases h
theorem seen_ok {n : Int} {s : Strat} (hn : n ≤ 5) (h : stratB n s = true) : SumOk s.seen := by
  obtain ⟨_, _, _, _, hl, hx, _⟩ := stratB_iff.1 h
  refine sumOk_of (by omega) fun x hm => ?_
  obtain ⟨j, hj, rfl⟩ := List.getElem_of_mem hm
  have := hx j _ (List.getElem?_eq_getElem hj)
  omega

theorem NumsAt.at_ {K : IntKind} {w : World} {A : Option Addr} {n c : Nat} {l : List Int} (h : NumsAt K w (.slice A n c) l) {k : Nat} (hk : k < l.length) :
    ∃ b o x, A = some ⟨b, o, none⟩ ∧ l[k]? = some x ∧ w.cell? ⟨b, o + k, none⟩ = some (.int K x) ∧ b < w.heap.size := by
  obtain ⟨A', c', e, _, _, hT⟩ := h
  cases e
  obtain ⟨b, o, e, hc⟩ := hT (by omega)
  have h1 := hc k hk
  rw [List.getElem?_eq_getElem hk, Option.getD_some] at h1
  exact ⟨b, o, _, e, List.getElem?_eq_getElem hk, h1, World.block_lt_of_cell? _ _ h1⟩

theorem RowsAt.at_ {w : World} {A : Option Addr} {n c : Nat} {ll : List (List Int)} (h : RowsAt w (.slice A n c) ll) {k : Nat} (hk : k < ll.length) :
    ∃ b o l u, A = some ⟨b, o, none⟩ ∧ ll[k]? = some l ∧ w.cell? ⟨b, o + k, none⟩ = some u ∧ NumsAt .i64 w u l ∧ b < w.heap.size := by
  obtain ⟨A', c', e, _, _, hT⟩ := h
  cases e
  obtain ⟨b, o, e, hc⟩ := hT (by omega)
  obtain ⟨u, h1, h2⟩ := hc k hk
  rw [List.getElem?_eq_getElem hk, Option.getD_some] at h2
  exact ⟨b, o, _, u, e, List.getElem?_eq_getElem hk, h1, h2, World.block_lt_of_cell? _ _ h1⟩

theorem StrataAt.at_ {w : World} {A : Option Addr} {n c : Nat} {ss : List Strat} (h : StrataAt w (.slice A n c) ss) {k : Nat} (hk : k < ss.length) :
    ∃ b o s u, A = some ⟨b, o, none⟩ ∧ ss[k]? = some s ∧ NumsAt .i64 w u s.seen ∧ w.cell? ⟨b, o + k * 4, none⟩ = some (.int .i64 s.coins) ∧ w.cell? ⟨b, o + k * 4 + 1, none⟩ = some (.int .i64 s.lo) ∧
      w.cell? ⟨b, o + k * 4 + 2, none⟩ = some (.int .i64 s.hi) ∧ w.cell? ⟨b, o + k * 4 + 3, none⟩ = some u ∧ b < w.heap.size := by
  obtain ⟨A', c', e, _, _, hT⟩ := h
  cases e
  obtain ⟨b, o, e, hc⟩ := hT (by omega)
  obtain ⟨u, h0, h1, h2, h3, h4⟩ := hc k ss[k] (List.getElem?_eq_getElem hk)
  exact ⟨b, o, _, u, e, List.getElem?_eq_getElem hk, h0, h1, h2, h3, h4, World.block_lt_of_cell? _ _ h1⟩

theorem NumsAt.form {K : IntKind} {w : World} {v : Value} {l : List Int} (h : NumsAt K w v l) : ∃ A c, v = .slice A l.length c ∧ l.length ≤ c ∧ c ≤ 9223372036854775807 := by
  obtain ⟨A, c, e, h1, h2, _⟩ := h
  exact ⟨A, c, e, h1, by simpa [maxLen] using h2⟩
theorem RowsAt.form {w : World} {v : Value} {l : List (List Int)} (h : RowsAt w v l) : ∃ A c, v = .slice A l.length c ∧ l.length ≤ c ∧ c ≤ 9223372036854775807 := by
  obtain ⟨A, c, e, h1, h2, _⟩ := h
  exact ⟨A, c, e, h1, by simpa [maxLen] using h2⟩
theorem StrataAt.form {w : World} {v : Value} {l : List Strat} (h : StrataAt w v l) : ∃ A c, v = .slice A l.length c ∧ l.length ≤ c ∧ c ≤ 9223372036854775807 := by
  obtain ⟨A, c, e, h1, h2, _⟩ := h
  exact ⟨A, c, e, h1, by simpa [maxLen] using h2⟩

def listsB (n : Int) (m : Nat) (ll : List (List Int)) : Bool := decide (ll.length = m) && ll.all fun l => decide ((l.length : Int) = n) && l.all fun x => inB x 0 400
def rowB (n : Int) (l : List Int) : Bool := decide ((l.length : Int) = n) && l.all fun x => inB x 0 400

def lowB (seen l : List Int) : Bool := (List.range l.length).all fun c => decide (seen[c]?.getD 0 ≤ l[c]?.getD 0)
def partB (s : Strat) (l : List Int) : Bool := lowB s.seen l && inB (sumL l) s.lo s.hi

theorem lowB_no {seen l : List Int} {k : Nat} {x y : Int} (hx : l[k]? = some x) (hy : seen[k]? = some y) (h : x < y) : lowB seen l = false := by
  unfold lowB
  rw [List.all_eq_false]
  exact ⟨k, List.mem_range.2 (List.getElem?_eq_some_iff.1 hx).1, by simp [hx, hy]; omega⟩
theorem lowB_yes {seen l : List Int} (h : ∀ k, k < l.length → seen[k]?.getD 0 ≤ l[k]?.getD 0) : lowB seen l = true := by
  unfold lowB
  rw [List.all_eq_true]
  intro k hk
  simpa using h k (List.mem_range.1 hk)
end Go.Proofs.Ytobeffjdfhkjeaa
namespace Go.Proofs.Ytobeffjdfhkjeaa
open Go Go.Proofs Go.RowKit

set_option maxRecDepth 100000 in
set_option maxHeartbeats 1600000 in
theorem Fault_any (n : Int) (v : Value) (ss : List Strat) (w : World) (hv : StrataAt w v ss) :
    Calls Try.prog 32 #[.agg #[.int .i64 n, v]] w (Gives w (.int .i64 (faultI n ss))) := by
  have hb0 : Below w.heap.size w (w.alloc (.cells #[.int .i64 n, v] 24)) := (Below.refl _ _).alloc (Nat.le_refl _) _
  obtain ⟨A, c, rfl, hc, hm, hT⟩ := hv
  unfold maxLen at hm
  by_cases h8 : 8 < ss.length
  · rw [fault_many h8]
    clear hT
    go_enter Try.func32, Try.ntmps32
    go_wp2
    go_ret
    exact ⟨rfl, hb0⟩
  cases h1 : inB n 1 5 with
  | false =>
    rw [fault_n h8 h1]
    clear hT
    go_enter Try.func32, Try.ntmps32
    go_wp2_with (go_at_call 40; refine (Same.to h1 (In_same _ _ _ _)).mono ?_; rintro e w' ⟨rfl, rfl⟩)
    go_ret
    exact ⟨rfl, hb0⟩
  | true =>
    have hn := inB_iff.1 h1
    have HT := Lib.hid hT
    clear hT
    go_enter Try.func32, Try.ntmps32
    go_wp2_with (go_at_call 40; refine (Same.to h1 (In_same _ _ _ _)).mono ?_; rintro e w' ⟨rfl, rfl⟩)
    go_loopw [3] (fun i wr => ∃ k : Nat, k ≤ ss.length ∧ i = .int .i64 k ∧ Below w.heap.size w wr ∧ w.heap.size < wr.heap.size ∧ wr.cell? ⟨w.heap.size, 0, none⟩ = some (.int .i64 n) ∧
        wr.cell? ⟨w.heap.size, 1, none⟩ = some (.slice A ss.length c) ∧ ∀ (j : Nat) (s : Strat), j < k → ss[j]? = some s → stratB n s = true) (fun i wr => ss.length - (intOf i).toNat)
    case atStart => exact ⟨0, by omega, rfl, hb0, by simp, by simp [go_sem], by simp [go_sem], by intro j s h; omega⟩
    case round =>
      obtain ⟨k, hk, rfl, hb, hlt0, hc0, hc1, hall⟩ := hrel
      have Hall := Lib.hid hall
      clear hall
      by_cases hlt : k < ss.length
      · obtain ⟨b, o, rfl, hT⟩ := HT.out (by omega)
        obtain ⟨s, hs⟩ : ∃ s, ss[k]? = some s := ⟨_, List.getElem?_eq_getElem hlt⟩
        obtain ⟨u, hu, d0, d1, d2, d3⟩ := hT k s hs
        have Hs := Lib.hid hs
        have hbw := World.block_lt_of_cell? _ _ d0
        replace hu := hu.below hb
        replace d0 := cell_below hb d0
        replace d1 := cell_below hb d1
        replace d2 := cell_below hb d2
        replace d3 := cell_below hb d3
        have hu0 := hu
        obtain ⟨A', c', rfl, hc', hm', hU⟩ := hu
        have HU := Lib.hid hU
        unfold maxLen at hm'
        clear hs hT hU
        by_cases q1 : inB s.coins 0 10000000 = true
        · by_cases q2 : inB s.lo 0 s.hi = true
          · by_cases q3 : s.hi ≤ 400
            · by_cases q4 : ((s.seen.length : Int) != n) = false
              · have Q : Hid ((0 ≤ s.coins ∧ s.coins ≤ 10000000) ∧ 0 ≤ s.lo ∧ s.lo ≤ s.hi ∧ s.hi ≤ 400 ∧ (s.seen.length : Int) = n) :=
                  ⟨inB_iff.1 q1, (inB_iff.1 q2).1, (inB_iff.1 q2).2, q3, by simpa using q4⟩
                have q5 : (s.seen.length : Int) ≤ 5 := by have := Q.out.2.2.2.2; omega
                go_wp2_with (go_at_call 40; refine (In_same _ _ _ _).mono ?_; rintro e w' ⟨rfl, rfl⟩)
                go_loop [5] (fun i => ∃ j : Nat, j ≤ s.seen.length ∧ i = .int .i64 j ∧ ∀ (t : Nat) (x : Int), t < j → s.seen[t]? = some x → inB x 0 400 = true) (fun i => s.seen.length - (intOf i).toNat)
                case atStart => exact ⟨0, by omega, rfl, by intro t x h; omega⟩
                case round =>
                  obtain ⟨j, hj, rfl, hx⟩ := hrel
                  have Hx := Lib.hid hx
                  clear hx
                  by_cases hlt1 : j < s.seen.length
                  · obtain ⟨b', o', rfl, hU⟩ := HU.out (by omega)
                    obtain ⟨x, hx⟩ : ∃ x, s.seen[j]? = some x := ⟨_, List.getElem?_eq_getElem hlt1⟩
                    have dx := hU j hlt1
                    rw [hx] at dx
                    simp only [Option.getD_some] at dx
                    have hbx := World.block_lt_of_cell? _ _ dx
                    have Hxx := Lib.hid hx
                    clear hx hU
                    go_wp2_with (go_at_call 40; refine (In_same _ _ _ _).mono ?_; rintro e w' ⟨rfl, rfl⟩)
                    · have q : (!inB x 0 400) = true := by assumption
                      go_ret
                      refine gives_int (fault_bad h8 Hs.out (stratB_no ?_)).symm (hb.alloc hb.size _)
                      rintro ⟨_, _, _, _, _, q1, _⟩
                      have := inB_iff.2 (q1 j x Hxx.out)
                      rw [this] at q
                      cases q
                    · have q : (!inB x 0 400) = false := by assumption
                      go_round
                      case rel =>
                        refine ⟨j + 1, by omega, by go_num, fun t y ht hy => ?_⟩
                        by_cases e : t = j
                        · subst e
                          rw [Hxx.out] at hy
                          cases hy
                          simpa using q
                        · exact Hx.out t y (by omega) hy
                      case measure => simp [intOf]; omega
                  · have hok : SumOk s.seen := sumOk_of (by omega) (by
                      intro x hx
                      obtain ⟨t, ht, rfl⟩ := List.getElem_of_mem hx
                      have := inB_iff.1 (Hx.out t _ (by omega) (List.getElem?_eq_getElem ht))
                      omega)
                    have hsb := sumL_bound (l := s.seen) (M := 400) (by omega) (by
                      intro x hx
                      obtain ⟨t, ht, rfl⟩ := List.getElem_of_mem hx
                      exact inB_iff.1 (Hx.out t _ (by omega) (List.getElem?_eq_getElem ht)))
                    go_wp2_with fail
                    refine wp_name (fun W => Below wr.heap.size wr W ∧ wr.heap.size < W.heap.size ∧ W.cell? ⟨wr.heap.size, 1, none⟩ = some (.int .i64 s.lo) ∧ W.cell? ⟨wr.heap.size, 3, none⟩ = some (.slice A' s.seen.length c')) ?_ (fun W hF => ?_)
                    · exact ⟨(Below.refl _ _).alloc (Nat.le_refl _) _, by simp, by simp [go_sem], by simp [go_sem]⟩
                    obtain ⟨hW, hWs, f1, f3⟩ := hF
                    have huW := hu0.below hW
                    replace f1 := Later.cell f1
                    replace f3 := Later.cell f3
                    refine wp_region_later (by kernel_rfl) (by kernel_rfl) ?_
                    repeat (go_big_quiet_step ((go_at_call 30; exact Later.call (Sum_any _ _ _ (huW.below (Subtype.property _)) hok))))
                    refine wpQuiet_nil ?_
                    intro w2 hx2
                    have hb2 := Later.out hx2
                    clear hx2
                    have hw2 : Below wr.heap.size wr w2 := hW.trans (hb2.mono hW.size)
                    clear f1 f3
                    go_wp2
                    · have q : s.lo < sumL s.seen := by assumption
                      go_ret
                      refine gives_int (fault_bad h8 Hs.out (stratB_no ?_)).symm (hb.trans (hw2.mono hb.size))
                      rintro ⟨_, _, _, _, _, _, q6⟩
                      omega
                    · have q : sumL s.seen ≤ s.lo := by assumption
                      go_roundw
                      case rel =>
                        refine ⟨k + 1, by omega, by go_num, hb.trans (hw2.mono hb.size), Nat.lt_of_lt_of_le hlt0 hw2.size, cell_below hw2 hc0, cell_below hw2 hc1, fun t y ht hy => ?_⟩
                        by_cases e : t = k
                        · subst e
                          rw [Hs.out] at hy
                          cases hy
                          exact stratB_iff.2 ⟨Q.out.1, Q.out.2.1, Q.out.2.2.1, Q.out.2.2.2.1, Q.out.2.2.2.2, fun t x hx => inB_iff.1 (Hx.out t x (by have := (List.getElem?_eq_some_iff.1 hx).1; omega) hx), q⟩
                        · exact Hall.out t y (by omega) hy
                      case measure => simp [intOf]; omega
              · go_wp2_with (go_at_call 40; refine (In_same _ _ _ _).mono ?_; rintro e w' ⟨rfl, rfl⟩)
                go_ret
                refine gives_int (fault_bad h8 Hs.out (stratB_no ?_)).symm (hb.alloc hb.size _)
                rintro ⟨_, _, _, _, q5, _⟩
                simp [q5] at q4
            · go_wp2_with (go_at_call 40; refine (In_same _ _ _ _).mono ?_; rintro e w' ⟨rfl, rfl⟩)
              go_ret
              refine gives_int (fault_bad h8 Hs.out (stratB_no ?_)).symm (hb.alloc hb.size _)
              rintro ⟨_, _, _, q4, _⟩
              omega
          · go_wp2_with (go_at_call 40; refine (In_same _ _ _ _).mono ?_; rintro e w' ⟨rfl, rfl⟩)
            go_ret
            refine gives_int (fault_bad h8 Hs.out (stratB_no ?_)).symm (hb.alloc hb.size _)
            rintro ⟨_, q3, q4, _⟩
            exact q2 (inB_iff.2 ⟨q3, q4⟩)
        · go_wp2_with (go_at_call 40; refine (In_same _ _ _ _).mono ?_; rintro e w' ⟨rfl, rfl⟩)
          go_ret
          refine gives_int (fault_bad h8 Hs.out (stratB_no ?_)).symm (hb.alloc hb.size _)
          rintro ⟨q2, _⟩
          exact q1 (inB_iff.2 q2)
      · go_wp2
        go_ret
        exact gives_int (fault_ok h8 h1 fun j s hj hs => Hall.out j s (by omega) hs).symm hb
end Go.Proofs.Ytobeffjdfhkjeaa
namespace Go.Proofs.Ytobeffjdfhkjeaa
open Go Go.Proofs Go.RowKit

set_option maxRecDepth 100000 in
theorem Part_any (s : Strat) (u v : Value) (l : List Int) (w : World) (hu : NumsAt .i64 w u s.seen) (hv : NumsAt .i64 w v l) (hl : l.length ≤ s.seen.length) (hok : SumOk l) :
    Calls Try.prog 36 #[.agg #[.int .i64 s.coins, .int .i64 s.lo, .int .i64 s.hi, u], v] w (Gives w (.bool (partB s l))) := by
  obtain ⟨A, c, rfl, hc, hm⟩ := hu.form
  obtain ⟨A', c', rfl, hc', hm'⟩ := hv.form
  go_enter Try.func36, Try.ntmps36
  go_wp2
  go_loopw [5] (fun i wr => ∃ k : Nat, k ≤ l.length ∧ i = .int .i64 k ∧ Below w.heap.size w wr ∧ w.heap.size < wr.heap.size ∧ wr.cell? ⟨w.heap.size, 1, none⟩ = some (.int .i64 s.lo) ∧
      wr.cell? ⟨w.heap.size, 2, none⟩ = some (.int .i64 s.hi) ∧ wr.cell? ⟨w.heap.size, 3, none⟩ = some (.slice A s.seen.length c) ∧ ∀ j, j < k → s.seen[j]?.getD 0 ≤ l[j]?.getD 0) (fun i wr => l.length - (intOf i).toNat)
  case atStart => exact ⟨0, by omega, rfl, (Below.refl _ _).alloc (Nat.le_refl _) _, by simp, by simp [go_sem], by simp [go_sem], by simp [go_sem], by intro j h; omega⟩
  case round =>
    obtain ⟨k, hk, rfl, hb, hlt0, f1, f2, f3, hall⟩ := hrel
    have Hall := Lib.hid hall
    clear hall
    by_cases hlt : k < l.length
    · obtain ⟨b, o, y, rfl, hy, dy, _⟩ := (hu.below hb).at_ (k := k) (by omega)
      obtain ⟨b', o', x, rfl, hx, dx, _⟩ := (hv.below hb).at_ hlt
      have Hx := Lib.hid hx
      have Hy := Lib.hid hy
      have i0 : (0 : Int) ≤ (k : Int) := by omega
      have i1 : (k : Int) < (l.length : Int) := by omega
      have i2 : (k : Int) < (s.seen.length : Int) := by omega
      clear hx hy
      have g3 := Later.cell f3
      replace dx := Later.cell dx
      replace dy := Later.cell dy
      go_wp2_with fail
      refine wp_region_later (by kernel_rfl) (by kernel_rfl) ?_
      repeat (go_big_quiet_step (fail))
      refine wpQuiet_nil ?_
      intro w2 hx2
      have hb2 := Later.out hx2
      clear hx2 dx dy g3
      go_wp2
      · have q : x < y := by assumption
        go_ret
        exact gives_bool (by simp [partB, lowB_no Hx.out Hy.out q]) (hb.trans (hb2.mono hb.size))
      · have q : y ≤ x := by assumption
        go_roundw
        case rel =>
          refine ⟨k + 1, by omega, by go_num, hb.trans (hb2.mono hb.size), Nat.lt_of_lt_of_le hlt0 hb2.size, cell_below hb2 f1, cell_below hb2 f2, cell_below hb2 f3, fun j hj => ?_⟩
          by_cases e : j = k
          · subst e
            rw [Hx.out, Hy.out]
            exact q
          · exact Hall.out j (by omega)
        case measure => simp [intOf]; omega
    · have hvw := hv.below hb
      have g1 := Later.cell f1
      have g2 := Later.cell f2
      go_wp2_with fail
      refine wp_region_later (by kernel_rfl) (by kernel_rfl) ?_
      repeat (go_big_quiet_step (first
        | (go_at_call 30; exact Later.call (Sum_any _ _ _ (hvw.below (Subtype.property _)) hok))
        | (go_at_call 40; exact Later.call (In_any _ _ _ _))))
      refine wpQuiet_nil ?_
      intro w2 hx2
      have hb2 := Later.out hx2
      clear hx2 g1 g2
      go_wp2
      go_ret
      exact gives_bool (by simp [partB, lowB_yes fun j hj => Hall.out j (by omega)]) (hb.trans (hb2.mono hb.size))
end Go.Proofs.Ytobeffjdfhkjeaa
namespace Go.Proofs.Ytobeffjdfhkjeaa
open Go Go.Proofs Go.RowKit

theorem listsB_row {n : Int} {m : Nat} {ll : List (List Int)} {k : Nat} {l : List Int} (hl : ll[k]? = some l) (h : rowB n l = false) : listsB n m ll = false := by
  unfold listsB
  rw [not_all_of hl (by simpa [rowB] using h)]
  simp
theorem listsB_end {n : Int} {m : Nat} {ll : List (List Int)} (h : ∀ (j : Nat) (l : List Int), j < ll.length → ll[j]? = some l → rowB n l = true) : listsB n m ll = decide (ll.length = m) := by
  unfold listsB
  rw [all_of fun j l hj hl => by simpa [rowB] using h j l hj hl]
  simp
theorem listsB_iff {n : Int} {m : Nat} {ll : List (List Int)} : listsB n m ll = true ↔ ll.length = m ∧ ∀ (j : Nat) (l : List Int), ll[j]? = some l → rowB n l = true := by
  constructor
  · intro h
    unfold listsB at h
    simp only [Bool.and_eq_true, decide_eq_true_eq] at h
    refine ⟨h.1, fun j l hl => ?_⟩
    have := List.all_eq_true.1 h.2 l (List.mem_of_getElem? hl)
    simpa [rowB] using this
  · rintro ⟨h1, h2⟩
    rw [listsB_end fun j l _ hl => h2 j l hl]
    simpa using h1
theorem rowB_iff {n : Int} {l : List Int} : rowB n l = true ↔ (l.length : Int) = n ∧ ∀ (j : Nat) (x : Int), l[j]? = some x → 0 ≤ x ∧ x ≤ 400 := by
  unfold rowB
  simp only [Bool.and_eq_true, decide_eq_true_eq]
  constructor
  · rintro ⟨h1, h2⟩
    exact ⟨h1, fun j x hx => inB_iff.1 (List.all_eq_true.1 h2 x (List.mem_of_getElem? hx))⟩
  · rintro ⟨h1, h2⟩
    exact ⟨h1, all_of fun j x _ hx => inB_iff.2 (h2 j x hx)⟩
theorem rowB_ok {n : Int} {l : List Int} (hn : n ≤ 5) (h : rowB n l = true) : SumOk l := by
  obtain ⟨h1, h2⟩ := rowB_iff.1 h
  refine sumOk_of (by omega) fun x hm => ?_
  obtain ⟨j, hj, rfl⟩ := List.getElem_of_mem hm
  have := h2 j _ (List.getElem?_eq_getElem hj)
  omega

set_option maxRecDepth 100000 in
set_option maxHeartbeats 800000 in
theorem Lists_any (n : Int) (v u : Value) (ss : List Strat) (ll : List (List Int)) (w : World) (hv : StrataAt w v ss) (hu : RowsAt w u ll) :
    Calls Try.prog 35 #[.agg #[.int .i64 n, v], u] w (Gives w (.bool (listsB n ss.length ll))) := by
  obtain ⟨A, c, rfl, hc, hm⟩ := hv.form
  obtain ⟨A', c', rfl, hc', hm'⟩ := hu.form
  go_enter Try.func35, Try.ntmps35
  go_wp2
  go_loopw [5] (fun i wr => ∃ k : Nat, k ≤ ll.length ∧ i = .int .i64 k ∧ Below w.heap.size w wr ∧ w.heap.size < wr.heap.size ∧ wr.cell? ⟨w.heap.size, 0, none⟩ = some (.int .i64 n) ∧
      wr.cell? ⟨w.heap.size, 1, none⟩ = some (.slice A ss.length c) ∧ ∀ (j : Nat) (l : List Int), j < k → ll[j]? = some l → rowB n l = true) (fun i wr => ll.length - (intOf i).toNat)
  case atStart => exact ⟨0, by omega, rfl, (Below.refl _ _).alloc (Nat.le_refl _) _, by simp, by simp [go_sem], by simp [go_sem], by intro j l h; omega⟩
  case round =>
    obtain ⟨k, hk, rfl, hb, hlt0, f0, f1, hall⟩ := hrel
    have Hall := Lib.hid hall
    clear hall
    by_cases hlt : k < ll.length
    · obtain ⟨b, o, l, x, rfl, hl, dl, hx, hbw⟩ := (hu.below hb).at_ hlt
      obtain ⟨B, C, rfl, hC, hC'⟩ := hx.form
      have Hl := Lib.hid hl
      clear hl
      have i0 : (0 : Int) ≤ (k : Int) := by omega
      have i1 : (k : Int) < (ll.length : Int) := by omega
      have dl' := Later.cell dl
      have g0 := Later.cell f0
      by_cases e : ((l.length : Int) != n) = false
      · go_wp2_with fail
        refine wp_region_later (by kernel_rfl) (by kernel_rfl) ?_
        repeat (go_big_quiet_step (fail))
        refine wpQuiet_nil ?_
        intro w2 hx2
        have hb2 := Later.out hx2
        clear hx2 dl' g0
        have hx2 := hx.below hb2
        have dl2 := cell_below hb2 dl
        go_wp2
        go_loop [6] (fun i => ∃ j : Nat, j ≤ l.length ∧ i = .int .i64 j ∧ ∀ (t : Nat) (y : Int), t < j → l[t]? = some y → inB y 0 400 = true) (fun i => l.length - (intOf i).toNat)
        case atStart => exact ⟨0, by omega, rfl, by intro t y h; omega⟩
        case round =>
          obtain ⟨j, hj, rfl, hy⟩ := hrel
          have Hy := Lib.hid hy
          clear hy
          by_cases hlt1 : j < l.length
          · obtain ⟨b', o', y, rfl, hy, dy, _⟩ := hx2.at_ hlt1
            have Hyy := Lib.hid hy
            clear hy
            go_wp2_with (go_at_call 40; refine (In_same _ _ _ _).mono ?_; rintro e w' ⟨rfl, rfl⟩)
            · have q : (!inB y 0 400) = true := by assumption
              go_ret
              refine gives_bool (listsB_row Hl.out ?_).symm (hb.trans (hb2.mono hb.size))
              rw [Bool.eq_false_iff]
              intro h
              have := inB_iff.2 ((rowB_iff.1 h).2 j y Hyy.out)
              rw [this] at q
              cases q
            · have q : (!inB y 0 400) = false := by assumption
              go_round
              case rel =>
                refine ⟨j + 1, by omega, by go_num, fun t z ht hz => ?_⟩
                by_cases e : t = j
                · subst e
                  rw [Hyy.out] at hz
                  cases hz
                  simpa using q
                · exact Hy.out t z (by omega) hz
              case measure => simp [intOf]; omega
          · go_wp2
            go_roundw
            case rel =>
              refine ⟨k + 1, by omega, by go_num, hb.trans (hb2.mono hb.size), Nat.lt_of_lt_of_le hlt0 hb2.size, cell_below hb2 f0, cell_below hb2 f1, fun t z ht hz => ?_⟩
              by_cases e' : t = k
              · subst e'
                rw [Hl.out] at hz
                cases hz
                refine rowB_iff.2 ⟨by simpa using e, fun t x hx => inB_iff.1 (Hy.out t x (by have := (List.getElem?_eq_some_iff.1 hx).1; omega) hx)⟩
              · exact Hall.out t z (by omega) hz
            case measure => simp [intOf]; omega
      · have e1 : ((l.length : Int) != n) = true := by simpa using e
        clear e
        go_wp2_with fail
        refine wp_region_later (by kernel_rfl) (by kernel_rfl) ?_
        repeat (go_big_quiet_step (fail))
        refine wpQuiet_nil ?_
        intro w2 hx2
        have hb2 := Later.out hx2
        clear hx2 dl' g0
        go_wp2
        go_ret
        refine gives_bool (listsB_row Hl.out ?_).symm (hb.trans (hb2.mono hb.size))
        rw [Bool.eq_false_iff]
        intro h
        have := (rowB_iff.1 h).1
        simp [this] at e1
    · go_wp2
      go_ret
      refine gives_bool ?_ hb
      rw [listsB_end fun j l hj hl => Hall.out j l (by omega) hl]
      rw [Bool.eq_iff_iff]; simp; omega
end Go.Proofs.Ytobeffjdfhkjeaa
namespace Go.Proofs.Ytobeffjdfhkjeaa
open Go Go.Proofs Go.RowKit

def getI (coins x t : Int) : Int := if t = 0 then 0 else coins * x / t

theorem mul_bd {a b : Int} (h1 : 0 ≤ a) (h2 : a ≤ 10000000) (h3 : 0 ≤ b) (h4 : b ≤ 1000000) : 0 ≤ a * b ∧ a * b ≤ 10000000000000 := by
  have e : a * b ≤ 10000000 * 1000000 := Int.mul_le_mul h2 h4 h3 (by omega)
  exact ⟨Int.mul_nonneg h1 h3, by omega⟩

theorem getI_pos {coins x t : Int} (h : t ≠ 0) : getI coins x t = coins * x / t := by simp [getI, h]

set_option maxRecDepth 100000 in
theorem Gets_any (s : Strat) (u v : Value) (l : List Int) (k : Nat) (w : World) (hv : NumsAt .i64 w v l) (hk : k < l.length) (hok : SumOk l) (h0 : 0 ≤ sumL l)
    (hs0 : 0 ≤ s.coins) (hs1 : s.coins ≤ 10000000) (hx0 : 0 ≤ l[k]?.getD 0) (hx1 : l[k]?.getD 0 ≤ 1000000) :
    Calls Try.prog 25 #[.agg #[.int .i64 s.coins, .int .i64 s.lo, .int .i64 s.hi, u], v, .int .i64 k] w (Gives w (.int .i64 (getI s.coins (l[k]?.getD 0) (sumL l)))) := by
  obtain ⟨A, c, rfl, hc, hm⟩ := hv.form
  have hb0 : Below w.heap.size w (w.alloc (.cells #[.int .i64 s.coins, .int .i64 s.lo, .int .i64 s.hi, u] 44)) := (Below.refl _ _).alloc (Nat.le_refl _) _
  have hv0 := hv.below hb0
  by_cases hz : sumL l = 0
  · have e : getI s.coins (l[k]?.getD 0) (sumL l) = 0 := by simp [getI, hz]
    rw [e]; clear e
    have hz1 : (sumL l == 0) = true := by simpa using hz
    clear hz
    go_enter Try.func25, Try.ntmps25
    go_wp2_with (go_at_call 30; refine (Sum_same _ _ _ hv0 hok).mono ?_; rintro e w' ⟨rfl, rfl⟩)
    go_ret
    exact ⟨rfl, hb0⟩
  · have hp : 1 ≤ sumL l := by omega
    have hz1 : (sumL l == 0) = false := by simpa using hz
    rw [getI_pos hz]
    clear hz
    obtain ⟨b, o, x, rfl, hx, dx, hbw⟩ := hv0.at_ hk
    rw [hx] at hx0 hx1 ⊢
    simp only [Option.getD_some] at hx0 hx1 ⊢
    have Hx := Lib.hid hx
    clear hx
    have hmb := mul_bd hs0 hs1 hx0 hx1
    have i0 : (0 : Int) ≤ (k : Int) := by omega
    have i1 : (k : Int) < (l.length : Int) := by omega
    go_enter Try.func25, Try.ntmps25
    go_wp2_with (go_at_call 30; refine (Sum_same _ _ _ hv0 hok).mono ?_; rintro e w' ⟨rfl, rfl⟩)
    refine wp_name (fun W => Below w.heap.size w W ∧ W.cell? ⟨w.heap.size, 0, none⟩ = some (.int .i64 s.coins) ∧ W.cell? ⟨b, o + k, none⟩ = some (.int .i64 x) ∧ NumsAt .i64 W (.slice (some ⟨b, o, none⟩) l.length c) l) ?_ (fun W hF => ?_)
    · exact ⟨hb0, by simp [go_sem], dx, hv0⟩
    obtain ⟨hW, f0, fx, hvW⟩ := hF
    clear dx
    replace f0 := Later.cell f0
    replace fx := Later.cell fx
    refine wp_region_later (by kernel_rfl) (by kernel_rfl) ?_
    repeat (go_big_quiet_step ((go_at_call 30; exact Later.call (Sum_any _ _ _ (hvW.below (Subtype.property _)) hok))))
    refine wpQuiet_nil ?_
    intro w2 hx2
    have hb2 := Later.out hx2
    clear hx2 f0 fx
    go_wp2
    go_ret
    refine gives_int ?_ (hW.trans (hb2.mono hW.size))
    rfl

set_option maxRecDepth 100000 in
theorem Unseen_any (s : Strat) (u : Value) (w : World) (hu : NumsAt .i64 w u s.seen) (hok : SumOk s.seen) (h0 : -1000000 ≤ s.hi) (h1 : s.hi ≤ 1000000) :
    Calls Try.prog 42 #[.agg #[.int .i64 s.coins, .int .i64 s.lo, .int .i64 s.hi, u]] w (Gives w (.int .i64 (s.hi - sumL s.seen))) := by
  have hbs := hok s.seen.length (Nat.le_refl _)
  rw [List.take_length] at hbs
  obtain ⟨A, c, rfl, hc, hm⟩ := hu.form
  go_enter Try.func42, Try.ntmps42
  go_wp2_with fail
  refine wp_name (fun W => Below w.heap.size w W ∧ W.cell? ⟨w.heap.size, 2, none⟩ = some (.int .i64 s.hi) ∧ W.cell? ⟨w.heap.size, 3, none⟩ = some (.slice A s.seen.length c)) ?_ (fun W hF => ?_)
  · exact ⟨(Below.refl _ _).alloc (Nat.le_refl _) _, by simp [go_sem], by simp [go_sem]⟩
  obtain ⟨hW, f2, f3⟩ := hF
  have huW := hu.below hW
  replace f2 := Later.cell f2
  replace f3 := Later.cell f3
  refine wp_region_later (by kernel_rfl) (by kernel_rfl) ?_
  repeat (go_big_quiet_step ((go_at_call 30; exact Later.call (Sum_any _ _ _ (huW.below (Subtype.property _)) hok))))
  refine wpQuiet_nil ?_
  intro w2 hx2
  have hb2 := Later.out hx2
  clear hx2 f2 f3
  go_wp2
  go_ret
  refine gives_int ?_ (hW.trans (hb2.mono hW.size))
  rfl
end Go.Proofs.Ytobeffjdfhkjeaa
namespace Go.Proofs.Ytobeffjdfhkjeaa
open Go Go.Proofs Go.RowKit

/-- The lists are parts of a truth, each of its stratum. -/
def partsB (ss : List Strat) (ll : List (List Int)) : Bool := (List.range ll.length).all fun i => partB (ss[i]?.getD Strat.none) (ll[i]?.getD [])
def truthB (n : Int) (ss : List Strat) (ll : List (List Int)) : Bool := listsB n ss.length ll && partsB ss ll

theorem partsB_no {ss : List Strat} {ll : List (List Int)} {k : Nat} {s : Strat} {l : List Int} (hs : ss[k]? = some s) (hl : ll[k]? = some l) (h : partB s l = false) : partsB ss ll = false := by
  unfold partsB
  rw [List.all_eq_false]
  exact ⟨k, List.mem_range.2 (List.getElem?_eq_some_iff.1 hl).1, by simp [hs, hl, h]⟩
theorem partsB_yes {ss : List Strat} {ll : List (List Int)} (h : ∀ k, k < ll.length → partB (ss[k]?.getD Strat.none) (ll[k]?.getD []) = true) : partsB ss ll = true := by
  unfold partsB
  rw [List.all_eq_true]
  intro k hk
  exact h k (List.mem_range.1 hk)

set_option maxRecDepth 100000 in
set_option maxHeartbeats 800000 in
theorem IsTruth_any (n : Int) (v u : Value) (ss : List Strat) (ll : List (List Int)) (w : World) (hv : StrataAt w v ss) (hu : RowsAt w u ll) (hn : n ≤ 5)
    (hval : ∀ (j : Nat) (s : Strat), ss[j]? = some s → stratB n s = true) :
    Calls Try.prog 24 #[.agg #[.int .i64 n, v], u] w (Gives w (.bool (truthB n ss ll))) := by
  have Hval := Lib.hid hval
  clear hval
  obtain ⟨A, c, rfl, hc, hm⟩ := hv.form
  obtain ⟨A', c', rfl, hc', hm'⟩ := hu.form
  have hb0 : Below w.heap.size w (w.alloc (.cells #[.int .i64 n, .slice A ss.length c] 24)) := (Below.refl _ _).alloc (Nat.le_refl _) _
  cases h1 : listsB n ss.length ll with
  | false =>
    have e : truthB n ss ll = false := by simp [truthB, h1]
    rw [e]; clear e
    go_enter Try.func24, Try.ntmps24
    go_wp2_with (go_at_call 35; refine (Gives.to h1 (Lists_any _ _ _ ss ll _ (hv.below hb0) (hu.below hb0))).mono ?_; rintro e w1 ⟨rfl, hb1⟩)
    go_ret
    exact ⟨rfl, hb0.trans (hb1.mono hb0.size)⟩
  | true =>
    have H1 := Lib.hid h1
    have hlen := (listsB_iff.1 h1).1
    have Hrow := Lib.hid (listsB_iff.1 h1).2
    have hl1 : ll.length ≤ ss.length := by omega
    clear hlen
    go_enter Try.func24, Try.ntmps24
    go_wp2_with (go_at_call 35; refine (Gives.to h1 (Lists_any _ _ _ ss ll _ (hv.below hb0) (hu.below hb0))).mono ?_; rintro e w1 ⟨rfl, hb1⟩)
    clear h1
    have g1 : w1.cell? ⟨w.heap.size, 1, none⟩ = some (.slice A ss.length c) := cell_below hb1 (by simp [go_sem])
    have hs1 : w.heap.size < w1.heap.size := Nat.lt_of_lt_of_le (by simp) hb1.size
    have hw1 := hb0.trans (hb1.mono hb0.size)
    clear hb0 hb1
    go_loopw [5] (fun i wr => ∃ k : Nat, k ≤ ll.length ∧ i = .int .i64 k ∧ Below w.heap.size w wr ∧ wr.cell? ⟨w.heap.size, 1, none⟩ = some (.slice A ss.length c) ∧
        ∀ j, j < k → partB (ss[j]?.getD Strat.none) (ll[j]?.getD []) = true) (fun i wr => ll.length - (intOf i).toNat)
    case atStart => exact ⟨0, by omega, rfl, hw1, g1, by intro j h; omega⟩
    case round =>
      obtain ⟨k, hk, rfl, hb, f1, hall⟩ := hrel
      have Hall := Lib.hid hall
      clear hall g1
      by_cases hlt : k < ll.length
      · obtain ⟨b, o, l, x, rfl, hl, dl, hx, _⟩ := (hu.below hb).at_ hlt
        obtain ⟨b', o', s, y, rfl, hs, hy, e0, e1, e2, e3, _⟩ := (hv.below hb).at_ (k := k) (by omega)
        have q1 := Hrow.out k l hl
        have q2 := stratB_iff.1 (Hval.out k s hs)
        have hok := rowB_ok hn q1
        have hle : l.length ≤ s.seen.length := by have := (rowB_iff.1 q1).1; omega
        have Hl := Lib.hid hl
        have Hs := Lib.hid hs
        clear hl hs q1 q2
        have i0 : (0 : Int) ≤ (k : Int) := by omega
        have i1 : (k : Int) < (ll.length : Int) := by omega
        have i2 : (k : Int) < (ss.length : Int) := by omega
        replace dl := Later.cell dl
        replace e0 := Later.cell e0
        replace e1 := Later.cell e1
        replace e2 := Later.cell e2
        replace e3 := Later.cell e3
        have g1 := Later.cell f1
        cases hp : partB s l
        all_goals
          go_wp2_with fail
          refine wp_region_later (by kernel_rfl) (by kernel_rfl) ?_
          repeat (go_big_quiet_step ((go_at_call 36; exact Later.call (Gives.to hp (Part_any s _ _ l _ (hy.below (Subtype.property _)) (hx.below (Subtype.property _)) hle hok)))))
          refine wpQuiet_nil ?_
          intro w2 hx2
          have hb2 := Later.out hx2
          clear hx2 dl e0 e1 e2 e3 g1
          go_wp2
        · go_ret
          refine gives_bool ?_ (hb.trans (hb2.mono hb.size))
          simp [truthB, partsB_no Hs.out Hl.out hp]
        · go_roundw
          case rel =>
            refine ⟨k + 1, by omega, by go_num, hb.trans (hb2.mono hb.size), cell_below hb2 f1, fun j hj => ?_⟩
            by_cases e : j = k
            · subst e
              rw [Hs.out, Hl.out]
              exact hp
            · exact Hall.out j (by omega)
          case measure => simp [intOf]; omega
      · go_wp2
        go_ret
        refine gives_bool ?_ hb
        rw [truthB, H1.out, partsB_yes fun j hj => Hall.out j (by omega)]
        rfl

theorem fault_any (n : Int) (v : Value) (ss : List Strat) (w : World) (hv : StrataAt w v ss) :
    Calls Try.prog 23 #[.agg #[.int .i64 n, v]] w (Gives w (.int .i64 (faultI n ss))) := by
  have hb0 : Below w.heap.size w (w.alloc (.cells #[.int .i64 n, v] 24)) := (Below.refl _ _).alloc (Nat.le_refl _) _
  obtain ⟨A, c, rfl, hc, hm⟩ := hv.form
  go_enter Try.func23, Try.ntmps23
  go_wp2_with (go_at_call 32; refine (Fault_any _ _ ss _ (hv.below hb0)).mono ?_; rintro e w1 ⟨rfl, hb1⟩)
  go_ret
  exact ⟨rfl, hb0.trans (hb1.mono hb0.size)⟩

def readyB (n : Int) (ss : List Strat) : Bool := thinB ss && (faultI n ss == 0)

theorem ready_any (n : Int) (v : Value) (ss : List Strat) (w : World) (hv : StrataAt w v ss) :
    Calls Try.prog 26 #[.agg #[.int .i64 n, v]] w (Gives w (.bool (readyB n ss))) := by
  have hb0 : Below w.heap.size w (w.alloc (.cells #[.int .i64 n, v] 24)) := (Below.refl _ _).alloc (Nat.le_refl _) _
  obtain ⟨A, c, rfl, hc, hm⟩ := hv.form
  cases h1 : thinB ss with
  | false =>
    have e : readyB n ss = false := by simp [readyB, h1]
    rw [e]; clear e
    go_enter Try.func26, Try.ntmps26
    go_wp2_with (go_at_call 16; refine (Gives.to h1 (thin_any _ _ ss _ (hv.below hb0))).mono ?_; rintro e w1 ⟨rfl, hb1⟩)
    go_ret
    exact ⟨rfl, hb0.trans (hb1.mono hb0.size)⟩
  | true =>
    have e : readyB n ss = (faultI n ss == 0) := by simp [readyB, h1]
    rw [e]; clear e
    go_enter Try.func26, Try.ntmps26
    go_wp2_with (go_at_call 16; refine (Gives.to h1 (thin_any _ _ ss _ (hv.below hb0))).mono ?_; rintro e w1 ⟨rfl, hb1⟩; have g0 : w1.cell? ⟨w.heap.size, 0, none⟩ = some (.int .i64 n) := cell_below hb1 (by simp [go_sem]); have g1 : w1.cell? ⟨w.heap.size, 1, none⟩ = some (.slice A ss.length c) := cell_below hb1 (by simp [go_sem]); have hw1 := hb0.trans (hb1.mono hb0.size))
    go_wp2_with (go_at_call 32; refine (Fault_any _ _ ss _ (hv.below hw1)).mono ?_; rintro e w2 ⟨rfl, hb2⟩)
    go_ret
    exact ⟨rfl, hw1.trans (hb2.mono hw1.size)⟩

def shortB (ll : List (List Int)) : Bool := decide (ll.length ≤ 12) && ll.all fun l => decide (l.length ≤ 9)

theorem short_any (v : Value) (ll : List (List Int)) (w : World) (hv : RowsAt w v ll) : Calls Try.prog 17 #[v] w (Gives w (.bool (shortB ll))) := by
  obtain ⟨A, c, rfl, hc, hm⟩ := hv.form
  go_enter Try.func17, Try.ntmps17
  go_wp2
  go_loop [3] (fun i => ∃ k : Nat, k ≤ ll.length ∧ k ≤ 13 ∧ i = .int .i64 k ∧ (∀ (j : Nat) (l : List Int), j < k → ll[j]? = some l → l.length ≤ 9)) (fun i => ll.length - (intOf i).toNat)
  case atStart => exact ⟨0, by omega, by omega, rfl, by intro j s h; omega⟩
  case round =>
    obtain ⟨k, hk, hk13, rfl, hall⟩ := hrel
    have Hall := Lib.hid hall
    clear hall
    by_cases hlt : k < ll.length
    · by_cases h13 : k < 13
      · obtain ⟨b, o, l, x, rfl, hl, dl, hx, _⟩ := hv.at_ hlt
        obtain ⟨A', c', rfl, hc', hm'⟩ := hx.form
        have Hl := Lib.hid hl
        clear hl
        have hk0 : (k : Int) < 13 := by omega
        go_wp2
        · have h9 : 9 < (l.length : Int) := by assumption
          go_ret
          refine gives_bool ?_ (Below.refl _ _)
          rw [shortB, not_all_of Hl.out (by simp; omega)]
          simp
        · have h9 : (l.length : Int) ≤ 9 := by assumption
          go_round
          case rel =>
            refine ⟨k + 1, by omega, by omega, by go_num, fun j s hj hs => ?_⟩
            by_cases e : j = k
            · subst e
              rw [Hl.out] at hs
              cases hs
              omega
            · exact Hall.out j s (by omega) hs
          case measure => simp [intOf]; omega
      · go_wp2
        go_ret
        refine gives_bool ?_ (Below.refl _ _)
        rw [shortB, decide_eq_false (by omega : ¬ ll.length ≤ 12)]
        simp; omega
    · go_wp2
      go_ret
      refine gives_bool ?_ (Below.refl _ _)
      by_cases h12 : ll.length ≤ 12
      · rw [shortB, all_of fun j s hj hs => by simpa using Hall.out j s (by omega) hs]
        simp; omega
      · rw [shortB, decide_eq_false h12]
        simp; omega

theorem ints_any (v u : Value) (a b : List Int) (w : World) (hv : NumsAt .i64 w v a) (hu : NumsAt .i64 w u b) : Calls Try.prog 33 #[v, u] w (Gives w (.bool (decide (a = b)))) := by
  obtain ⟨A, c, rfl, hc, hm⟩ := hv.form
  obtain ⟨A', c', rfl, hc', hm'⟩ := hu.form
  by_cases e : ((a.length : Int) != (b.length : Int)) = false
  · have hl0 : (a.length : Int) = (b.length : Int) := by simpa using e
    have hl : a.length = b.length := by omega
    clear hl0
    have hl1 : a.length ≤ b.length := by omega
    have hl2 : b.length ≤ a.length := by omega
    clear hl
    go_enter Try.func33, Try.ntmps33
    go_wp2
    go_loopw [5] (fun i wr => ∃ k : Nat, k ≤ a.length ∧ i = .int .i64 k ∧ Below w.heap.size w wr ∧ ∀ j, j < k → a[j]? = b[j]?) (fun i wr => a.length - (intOf i).toNat)
    case atStart => exact ⟨0, by omega, rfl, Below.refl _ _, by intro j h; omega⟩
    case round =>
      obtain ⟨k, hk, rfl, hb, hall⟩ := hrel
      have Hall := Lib.hid hall
      clear hall
      by_cases hlt : k < a.length
      · obtain ⟨p, o, x, rfl, hx, dx, _⟩ := (hv.below hb).at_ hlt
        obtain ⟨p', o', y, rfl, hy, dy, _⟩ := (hu.below hb).at_ (k := k) (by omega)
        have Hx := Lib.hid hx
        have Hy := Lib.hid hy
        clear hx hy
        have i0 : (0 : Int) ≤ (k : Int) := by omega
        have i1 : (k : Int) < (a.length : Int) := by omega
        have i2 : (k : Int) < (b.length : Int) := by omega
        replace dx := Later.cell dx
        replace dy := Later.cell dy
        go_wp2_with fail
        refine wp_region_later (by kernel_rfl) (by kernel_rfl) ?_
        repeat (go_big_quiet_step (fail))
        refine wpQuiet_nil ?_
        intro w2 hx2
        have hb2 := Later.out hx2
        clear hx2 dx dy
        by_cases exy : (x != y) = true
        · go_wp2
          go_ret
          refine gives_bool ?_ (hb.trans (hb2.mono hb.size))
          symm
          rw [decide_eq_false_iff_not]
          rintro rfl
          have := Hx.out.symm.trans Hy.out
          cases this
          simp at exy
        · replace exy : (x != y) = false := by simpa using exy
          go_wp2
          go_roundw
          case rel =>
            refine ⟨k + 1, by omega, by go_num, hb.trans (hb2.mono hb.size), fun j hj => ?_⟩
            by_cases e : j = k
            · subst e
              rw [Hx.out, Hy.out]
              simpa using exy
            · exact Hall.out j (by omega)
          case measure => simp [intOf]; omega
      · go_wp2
        go_ret
        refine gives_bool ?_ hb
        symm
        rw [decide_eq_true_iff]
        apply List.ext_getElem?
        intro j
        by_cases hj : j < k
        · exact Hall.out j hj
        · rw [List.getElem?_eq_none (by omega), List.getElem?_eq_none (by omega)]
  · have e1 : ((a.length : Int) != (b.length : Int)) = true := by simpa using e
    clear e
    go_enter Try.func33, Try.ntmps33
    go_wp2
    go_ret
    refine gives_bool ?_ (Below.refl _ _)
    symm
    rw [decide_eq_false_iff_not]
    rintro rfl
    simp at e1
end Go.Proofs.Ytobeffjdfhkjeaa
