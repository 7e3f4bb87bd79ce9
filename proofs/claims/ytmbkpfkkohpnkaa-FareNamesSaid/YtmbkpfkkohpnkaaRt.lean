import Derived.Test.YtmbkpfkkohpnkaaUa
import Derived.Test.YtmbkpfkkohpnkaaPu
set_option linter.unusedVariables false
set_option linter.unusedSimpArgs false
namespace Go.Proofs.Ytmbkpfkkohpnkaa
open Go Go.Proofs Go.RowKit

/-! ### What taps tell, in memory -/
def toldC (us : Nat → Value) (k : Value) : List Value := [us 0, us 1, us 2, us 3, us 4, us 5, us 6, us 7, us 8, us 9, k]
def updU (us : Nat → Value) (c : Nat) (v : Value) : Nat → Value := fun i => if i = c then v else us i
def nilU : Nat → Value := fun _ => .slice none 0 0
theorem ten_cases {c : Nat} {p : Nat → Prop} (hc : c < 10) (h0 : p 0) (h1 : p 1) (h2 : p 2) (h3 : p 3) (h4 : p 4) (h5 : p 5) (h6 : p 6) (h7 : p 7) (h8 : p 8) (h9 : p 9) : p c := by
  match c, hc with
  | 0, _ => exact h0
  | 1, _ => exact h1
  | 2, _ => exact h2
  | 3, _ => exact h3
  | 4, _ => exact h4
  | 5, _ => exact h5
  | 6, _ => exact h6
  | 7, _ => exact h7
  | 8, _ => exact h8
  | 9, _ => exact h9
section
variable {w w' : World} {B : Nat} {us : Nat → Value} {k : Value} {T : TypeId}
theorem told_cell (h : w.heap[B]? = some (.cells (toldC us k).toArray T (0, 0))) {c : Nat} (hc : c < 10) : w.cell? ⟨B, c, none⟩ = some (us c) := by
  have hq := box_cells h
  exact ten_cases (p := fun c => w.cell? ⟨B, c, none⟩ = some (us c)) hc (hq 0) (hq 1) (hq 2) (hq 3) (hq 4) (hq 5) (hq 6) (hq 7) (hq 8) (hq 9)
theorem told_map (h : w.heap[B]? = some (.cells (toldC us k).toArray T (0, 0))) : w.cell? ⟨B, 10, none⟩ = some k := box_cells h 10
theorem told_set (h : w.heap[B]? = some (.cells (toldC us k).toArray T (0, 0))) {c : Nat} (hc : c < 10) (v : Value) : (w.setCell ⟨B, c, none⟩ v).heap[B]? = some (.cells (toldC (updU us c v) k).toArray T (0, 0)) := by
  rw [blk_set h]
  exact ten_cases (p := fun c => some (Obj.cells ((toldC us k).toArray.setIfInBounds c v) T (0, 0)) = some (Obj.cells (toldC (updU us c v) k).toArray T (0, 0))) hc rfl rfl rfl rfl rfl rfl rfl rfl rfl rfl
theorem told_setM (h : w.heap[B]? = some (.cells (toldC us k).toArray T (0, 0))) (v : Value) : (w.setCell ⟨B, 10, none⟩ v).heap[B]? = some (.cells (toldC us v).toArray T (0, 0)) := by
  rw [blk_set h]
  rfl
/-- Ten rows that one owns, apart from each other. -/
structure Ten (w : World) (base : Nat) (us : Nat → Value) (ll : Nat → List Rd) : Prop where
  own : ∀ c, c < 10 → w.ownsRow base 70 4 (us c) (ll c).length ((ll c).flatMap rdC)
  apart : ∀ c d, c < 10 → d < 10 → c ≠ d → ∀ b, (us c).ownBlock = some b → (us d).ownBlock ≠ some b
theorem Ten.nil (w : World) (base : Nat) : Ten w base nilU (fun _ => []) := ⟨fun c _ => World.ownsRow_nil _ _ _ _, fun c d _ _ _ b h => by cases h⟩
theorem Ten.below {base : Nat} {ll : Nat → List Rd} (h : Ten w base us ll) (hb : Below w.heap.size w w') : Ten w' base us ll := ⟨fun c hc => own_below (h.own c hc) hb, h.apart⟩
theorem own_keptR {v : Value} {n B : Nat} {xs : List Value} {base : Nat} (ho : w.ownsRow base 70 4 v n xs) (hg : w.grownBy w' (some B)) (hB : ∀ cur fr, w.heap[B]? ≠ some (.cells cur 70 fr)) : w'.ownsRow base 70 4 v n xs := by
  refine ho.kept hg ?_
  rcases ho.2 with ⟨h1, _⟩ | ⟨g, cap, cur, h1, _, h3, _⟩
  · left; rw [h1]; rfl
  · right
    rw [h1]
    intro e
    simp only [Value.ownBlock, Option.some.injEq] at e
    subst e
    exact hB _ _ h3
theorem Ten.kept {base : Nat} {ll : Nat → List Rd} (h : Ten w base us ll) (hg : w.grownBy w' (some B)) (hB : ∀ cur fr, w.heap[B]? ≠ some (.cells cur 70 fr)) : Ten w' base us ll := ⟨fun c hc => own_keptR (h.own c hc) hg hB, h.apart⟩
theorem own_lt {base : Nat} {e : TypeId} {size n g : Nat} {v : Value} {xs : List Value} (h : w.ownsRow base e size v n xs) (hg : v.ownBlock = some g) : base ≤ g ∧ g < w.heap.size ∧ ∃ cur, w.heap[g]? = some (.cells cur e (0, 0)) := by
  rcases h.2 with ⟨h1, _⟩ | ⟨g', cap, cur, h1, h2, h3, _⟩
  · rw [h1] at hg; cases hg
  · rw [h1] at hg
    simp only [Value.ownBlock, Option.some.injEq] at hg
    subst hg
    exact ⟨h2, (Array.getElem?_eq_some_iff.1 h3).1, cur, h3⟩
theorem Ten.grow {base c : Nat} {ll : Nat → List Rd} {v1 : Value} {l1 : List Rd} {n1 : Nat} {xs1 : List Value} (h : Ten w base us ll) (hc : c < 10) (hn : n1 = l1.length) (hx : xs1 = l1.flatMap rdC) (ho : w'.ownsRow base 70 4 v1 n1 xs1) (hg : w.grownBy w' (us c).ownBlock)
    (hat : v1.ownBlock = (us c).ownBlock ∨ v1.ownBlock = some w.heap.size) : Ten w' base (updU us c v1) (fun d => if d = c then l1 else ll d) := by
  subst hn hx
  refine ⟨fun d hd => ?_, fun d e hd he hne b hb => ?_⟩
  · unfold updU
    by_cases e : d = c
    · rw [if_pos e, if_pos e]; exact ho
    · rw [if_neg e, if_neg e]
      refine (h.own d hd).kept hg ?_
      cases hq : (us d).ownBlock with
      | none => exact .inl rfl
      | some g => exact .inr (fun k => h.apart d c hd hc e g hq k.symm)
  · unfold updU at hb ⊢
    by_cases e1 : d = c
    · rw [if_pos e1] at hb
      rw [if_neg (fun k => hne (e1.trans k.symm))]
      rcases hat with k | k
      · rw [k] at hb
        exact h.apart c e hc he (fun k => hne (e1.trans k)) b hb
      · rw [k] at hb
        cases hb
        intro k2
        have := (own_lt (h.own e he) k2).2.1
        omega
    · rw [if_neg e1] at hb
      by_cases e2 : e = c
      · rw [if_pos e2]
        rcases hat with k | k
        · rw [k]; exact h.apart d c hd hc e1 b hb
        · rw [k]
          intro k2
          cases k2
          have := (own_lt (h.own d hd) hb).2.1
          omega
      · rw [if_neg e2]
        exact h.apart d e hd he hne b hb
theorem Ten.cong {base : Nat} {ll mm : Nat → List Rd} (h : Ten w base us ll) (e : ∀ c, c < 10 → ll c = mm c) : Ten w base us mm := ⟨fun c hc => by rw [← e c hc]; exact h.own c hc, h.apart⟩
end
theorem tap_zero (w : World) : (zeroValue 91).run Try.prog w = .ok (.agg #[.int .i64 0, .int .i64 0, .int .i64 0, .int .i64 0, .int .i64 0, .int .i64 0, .int .i64 0]) w := by kernel_rfl
theorem told_zero (w : World) : (zeroValue 109).run Try.prog w = .ok (.agg (toldC nilU (.map none)).toArray) w := by kernel_rfl
/-- What read hands back. -/
def GivesRead (t : Tar) (l : List Tp) (cs : List Int) (w : World) (e : Ending) (w' : World) : Prop :=
  Below w.heap.size w w' ∧ ((tapsF t l cs ≠ 0 → e = .returned (.tuple #[.agg (toldC nilU (.map none)).toArray, .int .i64 (tapsF t l cs)])) ∧
    (tapsF t l cs = 0 → ∃ us K n F, e = .returned (.tuple #[.agg (toldC us (.map (some K))).toArray, .int .i64 0]) ∧ (∀ c, c < 10 → RdsAt w' (us c) (onceL (ridesC l c))) ∧ MapN 139 w' K n F ∧ (∀ m n : Int, 0 ≤ m → m ≤ 3 → 0 ≤ n → n < 50 → (F (numV m n)).isSome = hasB l m n) ∧ ∀ m u, F m = some u → ∃ y : Tp, u = tpV y))
/-- The store of a zero told. -/
theorem told_put {W : World} {B : Nat} {us : Nat → Value} {k : Value} {vs : Nat → Value} {q : Value} {T : TypeId} (h : W.heap[B]? = some (.cells (toldC us k).toArray T (0, 0))) :
    (((((((((((W.setCell ⟨B, 0, none⟩ (vs 0)).setCell ⟨B, 1, none⟩ (vs 1)).setCell ⟨B, 2, none⟩ (vs 2)).setCell ⟨B, 3, none⟩ (vs 3)).setCell ⟨B, 4, none⟩ (vs 4)).setCell ⟨B, 5, none⟩ (vs 5)).setCell ⟨B, 6, none⟩ (vs 6)).setCell ⟨B, 7, none⟩ (vs 7)).setCell ⟨B, 8, none⟩ (vs 8)).setCell ⟨B, 9, none⟩ (vs 9)).setCell ⟨B, 10, none⟩ q).heap[B]? = some (.cells (toldC vs q).toArray T (0, 0)) ∧
    W.grownBy (((((((((((W.setCell ⟨B, 0, none⟩ (vs 0)).setCell ⟨B, 1, none⟩ (vs 1)).setCell ⟨B, 2, none⟩ (vs 2)).setCell ⟨B, 3, none⟩ (vs 3)).setCell ⟨B, 4, none⟩ (vs 4)).setCell ⟨B, 5, none⟩ (vs 5)).setCell ⟨B, 6, none⟩ (vs 6)).setCell ⟨B, 7, none⟩ (vs 7)).setCell ⟨B, 8, none⟩ (vs 8)).setCell ⟨B, 9, none⟩ (vs 9)).setCell ⟨B, 10, none⟩ q) (some B) := by
  refine ⟨?_, ?_⟩
  · have e := told_setM (told_set (told_set (told_set (told_set (told_set (told_set (told_set (told_set (told_set (told_set h (c := 0) (by omega) (vs 0)) (c := 1) (by omega) (vs 1)) (c := 2) (by omega) (vs 2)) (c := 3) (by omega) (vs 3)) (c := 4) (by omega) (vs 4)) (c := 5) (by omega) (vs 5)) (c := 6) (by omega) (vs 6)) (c := 7) (by omega) (vs 7)) (c := 8) (by omega) (vs 8)) (c := 9) (by omega) (vs 9)) q
    have e2 : ∀ us : Nat → Value, toldC (updU (updU (updU (updU (updU (updU (updU (updU (updU (updU us 0 (vs 0)) 1 (vs 1)) 2 (vs 2)) 3 (vs 3)) 4 (vs 4)) 5 (vs 5)) 6 (vs 6)) 7 (vs 7)) 8 (vs 8)) 9 (vs 9)) q = toldC vs q := fun us => by simp [toldC, updU]
    rw [e2] at e
    exact e
  · exact grown_set (grown_set (grown_set (grown_set (grown_set (grown_set (grown_set (grown_set (grown_set (grown_set (grown_set (World.grownBy.refl W _) _ _) _ _) _ _) _ _) _ _) _ _) _ _) _ _) _ _) _ _) _ _
theorem heap_alloc_if (w : World) (o : Obj) (k : Nat) : (w.alloc o).heap[k]? = if k = w.heap.size then some o else w.heap[k]? := by
  by_cases h : k = w.heap.size
  · subst h
    rw [if_pos rfl]
    exact World.alloc_heap_new w o
  · rw [if_neg h]
    rcases Nat.lt_or_ge k w.heap.size with h1 | h1
    · exact Below.heap_alloc w o k h1
    · rw [Array.getElem?_eq_none h1, Array.getElem?_eq_none (by simp; omega)]
theorem heap_alloc3_new (w : World) (o o' o'' : Obj) : (((w.alloc o).alloc o').alloc o'').heap[w.heap.size + 1 + 1]? = some o'' := by
  rw [heap_alloc_if, if_pos (by simp)]
theorem told_int {w : World} {B : Nat} {us : Nat → Value} {k : Value} {T : TypeId} (h : w.heap[B]? = some (.cells (toldC us k).toArray T (0, 0))) (hs : ∀ c, c < 10 → ∃ A n m, us c = .slice A n m) (hk : ∃ q, k = .map q) (i : Nat) (z : Int) : w.cell? ⟨B, i, none⟩ ≠ some (.int .i64 z) := by
  intro e
  by_cases hi : i < 10
  · obtain ⟨A, n, m, h1⟩ := hs i hi
    rw [told_cell h hi, h1] at e
    cases e
  · by_cases h10 : i = 10
    · subst h10
      obtain ⟨q, rfl⟩ := hk
      rw [told_map h] at e
      cases e
    · rw [box_cells h i, Array.getElem?_eq_none (by simp [toldC]; omega)] at e
      cases e
theorem rds_told {w w' : World} {v : Value} {l : List Rd} {B : Nat} {us : Nat → Value} {k : Value} {T : TypeId} (h : RdsAt w v l) (hg : w.grownBy w' (some B)) (hB : w.heap[B]? = some (.cells (toldC us k).toArray T (0, 0))) (hs : ∀ c, c < 10 → ∃ A n m, us c = .slice A n m) (hk : ∃ q, k = .map q) : RdsAt w' v l := by
  obtain ⟨A, c, rfl, h1, h2, h3⟩ := h
  refine ⟨A, c, rfl, h1, h2, fun h0 => ?_⟩
  obtain ⟨b, o, rfl, h4⟩ := h3 h0
  have hne : b ≠ B := fun e => by
    subst e
    obtain ⟨q, _⟩ := h4 0 _ (List.getElem?_eq_getElem h0)
    exact told_int hB hs hk _ _ q
  have kp : ∀ i u, w.cell? ⟨b, i, none⟩ = some u → w'.cell? ⟨b, i, none⟩ = some u := fun i u hu => by
    have hlt := World.block_lt_of_cell? _ _ hu
    exact (World.cell?_of_block (hg.block b hlt (fun e => hne (by injection e)))).trans hu
  exact ⟨b, o, rfl, fun j r hr => ⟨kp _ _ (h4 j r hr).1, kp _ _ (h4 j r hr).2.1, kp _ _ (h4 j r hr).2.2.1, kp _ _ (h4 j r hr).2.2.2⟩⟩
section
variable {K : TypeId} {w : World} {b n : Nat} {F : Value → Option Value} {ops : Array Oper} {rest : List Oper} {o : Oper} {a : Act} {Q : Exit → Act → World → Prop}
theorem wpList_look_none (hK : Maps.Keyed Try.prog K) {t e : TypeId} (hg : o.guard = none) (m k : Operand) (hop : o.op = Op.lookup t m k true) (ht : Try.prog.underlying t = some (.map K e)) {z : Value} (hz : (zeroValue e).run Try.prog w = .ok z w) (x : Value) {l : Lit}
    (hm : a.eval m = .map (some b)) (hx : a.eval k = x) (h : MapN K w b n F) (hl : keyOf Try.prog K x = some l) (hF : F x = none) (hk : wpList Try.prog ops Q rest (a.put o.dst (.tuple #[z, .bool false])) w) : wpList Try.prog ops Q (o :: rest) a w :=
  wpList_look_okv hK hg m k hop ht hz x hm hx h hl (by rw [hF]; exact hk)
theorem wpList_look_some (hK : Maps.Keyed Try.prog K) {t e : TypeId} (hg : o.guard = none) (m k : Operand) (hop : o.op = Op.lookup t m k true) (ht : Try.prog.underlying t = some (.map K e)) {z : Value} (hz : (zeroValue e).run Try.prog w = .ok z w) (x : Value) {l : Lit}
    (hm : a.eval m = .map (some b)) (hx : a.eval k = x) (h : MapN K w b n F) (hl : keyOf Try.prog K x = some l) {u : Value} (hF : F x = some u) (hk : wpList Try.prog ops Q rest (a.put o.dst (.tuple #[u, .bool true])) w) : wpList Try.prog ops Q (o :: rest) a w :=
  wpList_look_okv hK hg m k hop ht hz x hm hx h hl (by rw [hF]; exact hk)
end
end Go.Proofs.Ytmbkpfkkohpnkaa
