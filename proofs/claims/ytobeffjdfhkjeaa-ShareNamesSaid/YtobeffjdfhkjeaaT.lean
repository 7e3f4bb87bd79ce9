import Derived.Test.YtobeffjdfhkjeaaS
set_option linter.unusedVariables false
set_option linter.unusedSimpArgs false
namespace Go.Proofs.Ytobeffjdfhkjeaa
open Go Go.Proofs Go.RowKit Go.Shelf

attribute [local go_sem] Oper.semAt_some

theorem grown_below {w w' : World} (h : Below w.heap.size w w') : w.grownBy w' none :=
  ⟨h.os, h.tape, h.output, h.size, fun k hk _ => h.block k hk⟩
theorem keeps_below {w w' : World} (h : Below w.heap.size w w') : KeepsOthers w w' :=
  ⟨h.size, fun k o hk _ => (h.block k (Array.getElem?_eq_some_iff.1 hk).1).trans hk⟩

/-- The blocks of X are kept. -/
def Keep (X : Nat → Prop) (W W' : World) : Prop := ∀ k, X k → W'.heap[k]? = W.heap[k]?
theorem Keep.refl (X : Nat → Prop) (W : World) : Keep X W W := fun _ _ => rfl
theorem Keep.trans {X : Nat → Prop} {A B C : World} (h : Keep X A B) (k : Keep X B C) : Keep X A C := fun i hi => (k i hi).trans (h i hi)
theorem Keep.cell {X : Nat → Prop} {A B : World} (h : Keep X A B) {p : Addr} {v : Value} (hp : X p.block) (hc : A.cell? p = some v) : B.cell? p = some v := by
  rw [← hc]
  unfold World.cell?
  rw [h _ hp]
theorem Keep.below {X : Nat → Prop} {A B : World} {n : Nat} (hX : ∀ k, X k → k < n) (h : Below n A B) : Keep X A B := fun k hk => h.block k (hX k hk)

theorem Keep.lt {X : Nat → Prop} {A B : World} (h : Keep X A B) {k : Nat} (hk : X k) (hA : k < A.heap.size) : k < B.heap.size := by
  have h1 := h k hk
  rw [Array.getElem?_eq_getElem hA] at h1
  exact (Array.getElem?_eq_some_iff.1 h1).1

/-- The first k of n places. -/
def ups (n k : Nat) : List { j : Nat // j < n } := (List.range k).filterMap fun j => if h : j < n then some ⟨j, h⟩ else none
theorem ups_succ {n k : Nat} (h : k < n) : ups n (k + 1) = ups n k ++ [⟨k, h⟩] := by simp [ups, List.range_succ, List.filterMap_append, h]
theorem ups_length {n k : Nat} (h : k ≤ n) : (ups n k).length = k := by
  induction k with
  | zero => rfl
  | succ k ih => rw [ups_succ (by omega)]; simp [ih (by omega)]

/-- What the iterator hands over in round x. -/
def spanE (al : Bool) (a lo hi un : Int) (l : List Int) (x : { j : Nat // j < l.length }) : Array Value :=
  #[.int .i64 (x.1 : Int), .agg #[.int .i64 (leastI al a lo hi (l[x.1]?.getD 0)), .int .i64 (mostI a hi un (l[x.1]?.getD 0))]]

/-- A look in its box. -/
structure LookIn (X : Nat → Prop) (w : World) (B : Nat) (al : Bool) (a lo hi un : Int) (A : Option Addr) (l : List Int) (c : Nat) : Prop where
  box : X B
  c0 : w.cell? ⟨B, 0, none⟩ = some (.int .i64 a)
  c1 : w.cell? ⟨B, 1, none⟩ = some (.int .i64 lo)
  c2 : w.cell? ⟨B, 2, none⟩ = some (.int .i64 hi)
  c3 : w.cell? ⟨B, 3, none⟩ = some (.slice A l.length c)
  c4 : w.cell? ⟨B, 4, none⟩ = some (.bool al)
  c5 : w.cell? ⟨B, 5, none⟩ = some (.int .i64 un)
  seen : ∀ k, k < l.length → ∃ b o, A = some ⟨b, o, none⟩ ∧ X b ∧ w.cell? ⟨b, o + k, none⟩ = some (.int .i64 (l[k]?.getD 0))

theorem LookIn.kept {X : Nat → Prop} {w w' : World} {B : Nat} {al : Bool} {a lo hi un : Int} {A : Option Addr} {l : List Int} {c : Nat} (h : LookIn X w B al a lo hi un A l c) (k : Keep X w w') : LookIn X w' B al a lo hi un A l c :=
  ⟨h.box, k.cell h.box h.c0, k.cell h.box h.c1, k.cell h.box h.c2, k.cell h.box h.c3, k.cell h.box h.c4, k.cell h.box h.c5, fun j hj => by
    obtain ⟨b, o, e, hb, hc⟩ := h.seen j hj
    exact ⟨b, o, e, hb, k.cell hb hc⟩⟩

set_option maxRecDepth 100000 in
set_option maxHeartbeats 2000000 in
theorem spans1_in (n : Nat) (hn : 1 ≤ n) (id B : Nat) (X : Nat → Prop) (al : Bool) (a lo hi un : Int) (A : Option Addr) (l : List Int) (c : Nat) (hl : l.length ≤ 1000)
    (h0 : 0 ≤ hi) (h1 : 0 ≤ a) (h2 : a ≤ 10000000) (hs : ∀ x ∈ l, 0 ≤ x ∧ x ≤ 1000000 ∧ 0 ≤ x + un ∧ x + un ≤ 1000000) (J Jx : List { j : Nat // j < l.length } → World → Prop) (W : World) (hXW : ∀ k, X k → k < W.heap.size)
    (hJ : AbidesFrom W.heap.size J) (hY : ∀ pre x W1, J pre W1 → pre.length < l.length → YieldAt Fence.wide (n - 1) Try.prog id (spanE al a lo hi un l x) W1 fun e W' =>
      (e = .returned (.bool true) ∧ J (pre ++ [x]) W' ∧ Keep X W1 W') ∨ (e = .returned (.bool false) ∧ Jx (pre ++ [x]) W'))
    (hL : LookIn X W B al a lo hi un A l c) (hst : J [] W) :
    CallsIn Fence.wide n Try.prog 81 #[.func (.yield id) #[] #[], .pointer (some ⟨B, 0, none⟩)] W fun e W' => (∃ v, e = .returned v) ∧
      ((∃ ys, ys = ups l.length l.length ∧ J ys W') ∨ (∃ pre, True ∧ Jx pre W')) := by
  refine callsIn_of_wp Try.func81 rfl trivial ?_ rfl
  simp only [Try.ntmps81, List.size_toArray, List.length_cons, List.length_nil, Nat.reduceAdd, Nat.reduceSub, Array.replicate_succ, Array.replicate_zero, List.push_toArray, List.append_toArray, List.nil_append, List.cons_append]
  have g3 := hL.c3
  gi_wp2
  clear g3
  gi_loopw [9] (fun i wr => ∃ k : Nat, k ≤ l.length ∧ i = .int .i64 k ∧ J (ups l.length k) wr ∧ Keep X W wr)
    (fun i _ => l.length - (intOf i).toNat)
  case atStart => exact ⟨0, Nat.zero_le _, rfl, hst, Keep.refl _ _⟩
  case round =>
    obtain ⟨k, hk, rfl, hJs, hnx⟩ := hrel
    have hXr : ∀ j, X j → j < wr.heap.size := fun j hj => hnx.lt hj (hXW j hj)
    by_cases hlt : k < l.length
    · have hLr := hL.kept hnx
      have g0 := hLr.c0
      have g1 := hLr.c1
      have g2 := hLr.c2
      have g3 := hLr.c3
      have g4 := hLr.c4
      have g5 := hLr.c5
      obtain ⟨b, o, rfl, hXb, gs⟩ := hLr.seen k hlt
      have hm : l[k]?.getD 0 ∈ l := by rw [List.getElem?_eq_getElem hlt]; exact List.getElem_mem _
      have hsm := hs _ hm
      obtain ⟨x, hx⟩ : ∃ x, l[k]?.getD 0 = x := ⟨_, rfl⟩
      rw [hx] at gs hm hsm
      have hin := fun W2 hJ2 => hY (ups l.length k) ⟨k, hlt⟩ W2 hJ2 (by rw [ups_length hk]; exact hlt)
      simp only [spanE, hx] at hin
      gi_wp2_with (refine ⟨trivial, ?_⟩; gi_at_call 82; refine (callsIn_wide.2 (span_any a lo hi un x _ al (some ⟨b, o, none⟩) l.length c _ rfl h0 h1 h2 hsm.1 hsm.2.1 hsm.2.2.1 hsm.2.2.2)).mono ?_; rintro e W2 ⟨rfl, hb2⟩; obtain ⟨fn, tmps, assign, body, hy, hR⟩ := hin W2 (hJ _ _ _ none hJs (grown_below hb2) (fun r e => by cases e)))
      refine hR.mono ?_
      rintro e W3 (⟨rfl, hJ3, hk3⟩ | ⟨rfl, hJx3⟩)
      · gi_wp2
        go_roundw
        case rel => exact ⟨k + 1, by omega, by simp, by rw [ups_succ hlt]; exact hJ3, hnx.trans ((Keep.below hXr hb2).trans hk3)⟩
        case measure => simp [intOf]; omega
      · gi_wp2
        refine bodyPost_ret (results_none rfl _ _ _) rfl ?_
        exact ⟨⟨_, rfl⟩, .inr ⟨_, trivial, hJx3⟩⟩
    · obtain rfl : k = l.length := by omega
      gi_wp2
      go_end0
      exact ⟨⟨_, rfl⟩, .inl ⟨_, rfl, hJs⟩⟩

theorem spans_stops (n : Nat) (hn : 1 ≤ n) (B : Nat) (X : Nat → Prop) (al : Bool) (a lo hi un : Int) (A : Option Addr) (l : List Int) (c : Nat) (hl : l.length ≤ 1000)
    (h0 : 0 ≤ hi) (h1 : 0 ≤ a) (h2 : a ≤ 10000000) (hs : ∀ x ∈ l, 0 ≤ x ∧ x ≤ 1000000 ∧ 0 ≤ x + un ∧ x + un ≤ 1000000) (w : World) (hXw : ∀ k, X k → k < w.heap.size) (hL : LookIn X w B al a lo hi un A l c) :
    SeqStopsK Fence.wide n Try.prog 81 #[.pointer (some ⟨B, 0, none⟩)] (spanE al a lo hi un l) (Keep X) (fun ys => ys = ups l.length l.length) (fun _ => True) l.length w := fun id J Jx W hW hJ _ hY hst =>
  spans1_in n hn id B X al a lo hi un A l c hl h0 h1 h2 hs J Jx W (fun k hk => Nat.lt_of_lt_of_le (hXw k hk) hW.size) hJ hY (hL.kept (Keep.below hXw hW)) hst

theorem spans_val (a lo hi un : Int) (u : Value) (al : Bool) (w : World) :
    Calls Try.prog 61 #[.agg #[.int .i64 a, .int .i64 lo, .int .i64 hi, u, .bool al, .int .i64 un]] w fun e w' =>
      e = .returned (.func (.func 81) #[] #[.pointer (some ⟨w.heap.size, 0, none⟩)]) ∧ w' = w.alloc (.cells #[.int .i64 a, .int .i64 lo, .int .i64 hi, u, .bool al, .int .i64 un] 95) := by
  go_enter Try.func61, Try.ntmps61
  go_wp2
  go_ret
  exact ⟨rfl, rfl⟩
end Go.Proofs.Ytobeffjdfhkjeaa
