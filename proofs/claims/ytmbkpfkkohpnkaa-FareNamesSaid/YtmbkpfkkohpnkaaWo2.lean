import Derived.Test.YtmbkpfkkohpnkaaWo
set_option linter.unusedVariables false
set_option linter.unusedSimpArgs false
namespace Go.Proofs.Ytmbkpfkkohpnkaa
open Go Go.Proofs Go.RowKit

theorem Later.out {w w' : World} (h : ∃ x : Later w, w' = x.val) : Below w.heap.size w w' := by
  obtain ⟨x, rfl⟩ := h
  exact x.property

theorem NumsAt.at_ {K : IntKind} {w : World} {A : Option Addr} {n c : Nat} {l : List Int} (h : NumsAt K w (.slice A n c) l) {k : Nat} (hk : k < l.length) :
    ∃ b o x, A = some ⟨b, o, none⟩ ∧ l[k]? = some x ∧ w.cell? ⟨b, o + k, none⟩ = some (.int K x) ∧ b < w.heap.size := by
  obtain ⟨A', c', e, _, _, hT⟩ := h
  cases e
  obtain ⟨b, o, e, hc⟩ := hT (by omega)
  have h1 := hc k hk
  rw [List.getElem?_eq_getElem hk, Option.getD_some] at h1
  exact ⟨b, o, _, e, List.getElem?_eq_getElem hk, h1, World.block_lt_of_cell? _ _ h1⟩

theorem RowsAt.at_ {w : World} {A : Option Addr} {n c : Nat} {ll : List (List Int)} (h : RowsAt w (.slice A n c) ll) {k : Nat} (hk : k < ll.length) :
    ∃ b o l u, A = some ⟨b, o, none⟩ ∧ ll[k]? = some l ∧ w.cell? ⟨b, o + k, none⟩ = some u ∧ NumsAt .i64 w u l ∧ b < w.heap.size := by
  obtain ⟨A', c', e, _, _, hT⟩ := h
  cases e
  obtain ⟨b, o, e, hc⟩ := hT (by omega)
  obtain ⟨u, h1, h2⟩ := hc k hk
  rw [List.getElem?_eq_getElem hk, Option.getD_some] at h2
  exact ⟨b, o, _, u, e, List.getElem?_eq_getElem hk, h1, h2, World.block_lt_of_cell? _ _ h1⟩

theorem NumsAt.form {K : IntKind} {w : World} {v : Value} {l : List Int} (h : NumsAt K w v l) : ∃ A c, v = .slice A l.length c ∧ l.length ≤ c ∧ c ≤ 9223372036854775807 := by
  obtain ⟨A, c, e, h1, h2, _⟩ := h
  exact ⟨A, c, e, h1, by simpa [maxLen] using h2⟩
theorem RowsAt.form {w : World} {v : Value} {l : List (List Int)} (h : RowsAt w v l) : ∃ A c, v = .slice A l.length c ∧ l.length ≤ c ∧ c ≤ 9223372036854775807 := by
  obtain ⟨A, c, e, h1, h2, _⟩ := h
  exact ⟨A, c, e, h1, by simpa [maxLen] using h2⟩

theorem bcell {W w1 : World} (hb : Below W.heap.size W w1) : (∀ b o, b < W.heap.size → w1.cell? ⟨b, o, none⟩ = W.cell? ⟨b, o, none⟩) ∧ (∀ b o, b < W.heap.size → w1.frozen? ⟨b, o, none⟩ = W.frozen? ⟨b, o, none⟩) :=
  ⟨fun b o h => hb.cell (p := ⟨b, o, none⟩) h, fun b o h => hb.frozen (p := ⟨b, o, none⟩) h⟩
theorem box_cells {w : World} {B : Nat} {xs : Array Value} {t : TypeId} (h : w.heap[B]? = some (.cells xs t (0, 0))) : ∀ o, w.cell? ⟨B, o, none⟩ = xs[o]? := fun o => by simp [World.cell?, h]
theorem nums_new (w : World) (l : List Int) (t : TypeId) (h : l.length ≤ maxLen) : NumsAt .i64 (w.alloc (.cells (l.map (.int .i64)).toArray t)) (.slice (some ⟨w.heap.size, 0, none⟩) l.length l.length) l := by
  refine ⟨_, l.length, rfl, Nat.le_refl _, h, fun _ => ⟨_, 0, rfl, fun k hk => ?_⟩⟩
  rw [cell_of_row _ _ _ _ _ _ (heap_alloc_new w _)]
  simp [List.getElem?_eq_getElem hk]
/-- A tap. -/
structure Tp where
  machine : Int
  number : Int
  card : Int
  ride : Rd
  deriving DecidableEq
/-- A slice of rds. -/
def RdsAt (w : World) (v : Value) (l : List Rd) : Prop :=
  ∃ A c, v = .slice A l.length c ∧ l.length ≤ c ∧ c ≤ maxLen ∧
    (0 < l.length → ∃ b o, A = some ⟨b, o, none⟩ ∧ ∀ k r, l[k]? = some r → w.cell? ⟨b, o + k * 4, none⟩ = some (.int .i64 r.day) ∧ w.cell? ⟨b, o + k * 4 + 1, none⟩ = some (.int .i64 r.minute) ∧ w.cell? ⟨b, o + k * 4 + 2, none⟩ = some (.int .i64 r.low) ∧ w.cell? ⟨b, o + k * 4 + 3, none⟩ = some (.int .i64 r.high))
section
variable {w w' : World} {v : Value}
theorem RdsAt.below {l : List Rd} (h : RdsAt w v l) (hb : Below w.heap.size w w') : RdsAt w' v l := by
  obtain ⟨A, c, rfl, h1, h2, h3⟩ := h
  refine ⟨A, c, rfl, h1, h2, fun hp => ?_⟩
  obtain ⟨b, o, e, hc⟩ := h3 hp
  refine ⟨b, o, e, fun k r hr => ?_⟩
  obtain ⟨c0, c1, c2, c3⟩ := hc k r hr
  exact ⟨cell_below hb c0, cell_below hb c1, cell_below hb c2, cell_below hb c3⟩
theorem RdsAt.form {l : List Rd} (h : RdsAt w v l) : ∃ A c, v = .slice A l.length c ∧ l.length ≤ c ∧ c ≤ 9223372036854775807 := by
  obtain ⟨A, c, e, h1, h2, _⟩ := h
  exact ⟨A, c, e, h1, by simpa [maxLen] using h2⟩
theorem RdsAt.at_ {A : Option Addr} {n c : Nat} {l : List Rd} (h : RdsAt w (.slice A n c) l) {k : Nat} (hk : k < l.length) :
    ∃ b o r, A = some ⟨b, o, none⟩ ∧ l[k]? = some r ∧ w.cell? ⟨b, o + k * 4, none⟩ = some (.int .i64 r.day) ∧ w.cell? ⟨b, o + k * 4 + 1, none⟩ = some (.int .i64 r.minute) ∧ w.cell? ⟨b, o + k * 4 + 2, none⟩ = some (.int .i64 r.low) ∧ w.cell? ⟨b, o + k * 4 + 3, none⟩ = some (.int .i64 r.high) ∧ b < w.heap.size := by
  obtain ⟨A', c', e, _, _, hT⟩ := h
  cases e
  obtain ⟨b, o, e, hc⟩ := hT (by omega)
  obtain ⟨h0, h1, h2, h3⟩ := hc k l[k] (List.getElem?_eq_getElem hk)
  exact ⟨b, o, _, e, List.getElem?_eq_getElem hk, h0, h1, h2, h3, World.block_lt_of_cell? _ _ h1⟩
theorem RdsAt.nil (w : World) (c : Nat) (hc : c ≤ maxLen) (A : Option Addr) : RdsAt w (.slice A 0 c) [] := ⟨A, c, rfl, Nat.zero_le _, hc, fun h => absurd h (by simp)⟩
end
/-- A slice of tks. -/
def TksAt (w : World) (v : Value) (l : List Tk) : Prop :=
  ∃ A c, v = .slice A l.length c ∧ l.length ≤ c ∧ c ≤ maxLen ∧
    (0 < l.length → ∃ b o, A = some ⟨b, o, none⟩ ∧ ∀ k r, l[k]? = some r → w.cell? ⟨b, o + k * 5, none⟩ = some (.int .u8 (r.kind : Int)) ∧ w.cell? ⟨b, o + k * 5 + 1, none⟩ = some (.int .i64 r.low) ∧ w.cell? ⟨b, o + k * 5 + 2, none⟩ = some (.int .i64 r.high) ∧ w.cell? ⟨b, o + k * 5 + 3, none⟩ = some (.int .i64 r.day) ∧ w.cell? ⟨b, o + k * 5 + 4, none⟩ = some (.int .i64 r.minute))
section
variable {w w' : World} {v : Value}
theorem TksAt.below {l : List Tk} (h : TksAt w v l) (hb : Below w.heap.size w w') : TksAt w' v l := by
  obtain ⟨A, c, rfl, h1, h2, h3⟩ := h
  refine ⟨A, c, rfl, h1, h2, fun hp => ?_⟩
  obtain ⟨b, o, e, hc⟩ := h3 hp
  refine ⟨b, o, e, fun k r hr => ?_⟩
  obtain ⟨c0, c1, c2, c3, c4⟩ := hc k r hr
  exact ⟨cell_below hb c0, cell_below hb c1, cell_below hb c2, cell_below hb c3, cell_below hb c4⟩
theorem TksAt.form {l : List Tk} (h : TksAt w v l) : ∃ A c, v = .slice A l.length c ∧ l.length ≤ c ∧ c ≤ 9223372036854775807 := by
  obtain ⟨A, c, e, h1, h2, _⟩ := h
  exact ⟨A, c, e, h1, by simpa [maxLen] using h2⟩
theorem TksAt.at_ {A : Option Addr} {n c : Nat} {l : List Tk} (h : TksAt w (.slice A n c) l) {k : Nat} (hk : k < l.length) :
    ∃ b o r, A = some ⟨b, o, none⟩ ∧ l[k]? = some r ∧ w.cell? ⟨b, o + k * 5, none⟩ = some (.int .u8 (r.kind : Int)) ∧ w.cell? ⟨b, o + k * 5 + 1, none⟩ = some (.int .i64 r.low) ∧ w.cell? ⟨b, o + k * 5 + 2, none⟩ = some (.int .i64 r.high) ∧ w.cell? ⟨b, o + k * 5 + 3, none⟩ = some (.int .i64 r.day) ∧ w.cell? ⟨b, o + k * 5 + 4, none⟩ = some (.int .i64 r.minute) ∧ b < w.heap.size := by
  obtain ⟨A', c', e, _, _, hT⟩ := h
  cases e
  obtain ⟨b, o, e, hc⟩ := hT (by omega)
  obtain ⟨h0, h1, h2, h3, h4⟩ := hc k l[k] (List.getElem?_eq_getElem hk)
  exact ⟨b, o, _, e, List.getElem?_eq_getElem hk, h0, h1, h2, h3, h4, World.block_lt_of_cell? _ _ h1⟩
theorem TksAt.nil (w : World) (c : Nat) (hc : c ≤ maxLen) (A : Option Addr) : TksAt w (.slice A 0 c) [] := ⟨A, c, rfl, Nat.zero_le _, hc, fun h => absurd h (by simp)⟩
end
/-- A slice of tps. -/
def TpsAt (w : World) (v : Value) (l : List Tp) : Prop :=
  ∃ A c, v = .slice A l.length c ∧ l.length ≤ c ∧ c ≤ maxLen ∧
    (0 < l.length → ∃ b o, A = some ⟨b, o, none⟩ ∧ ∀ k r, l[k]? = some r → w.cell? ⟨b, o + k * 7, none⟩ = some (.int .i64 r.machine) ∧ w.cell? ⟨b, o + k * 7 + 1, none⟩ = some (.int .i64 r.number) ∧ w.cell? ⟨b, o + k * 7 + 2, none⟩ = some (.int .i64 r.card) ∧ w.cell? ⟨b, o + k * 7 + 3, none⟩ = some (.int .i64 r.ride.day) ∧ w.cell? ⟨b, o + k * 7 + 4, none⟩ = some (.int .i64 r.ride.minute) ∧ w.cell? ⟨b, o + k * 7 + 5, none⟩ = some (.int .i64 r.ride.low) ∧ w.cell? ⟨b, o + k * 7 + 6, none⟩ = some (.int .i64 r.ride.high))
section
variable {w w' : World} {v : Value}
theorem TpsAt.below {l : List Tp} (h : TpsAt w v l) (hb : Below w.heap.size w w') : TpsAt w' v l := by
  obtain ⟨A, c, rfl, h1, h2, h3⟩ := h
  refine ⟨A, c, rfl, h1, h2, fun hp => ?_⟩
  obtain ⟨b, o, e, hc⟩ := h3 hp
  refine ⟨b, o, e, fun k r hr => ?_⟩
  obtain ⟨c0, c1, c2, c3, c4, c5, c6⟩ := hc k r hr
  exact ⟨cell_below hb c0, cell_below hb c1, cell_below hb c2, cell_below hb c3, cell_below hb c4, cell_below hb c5, cell_below hb c6⟩
theorem TpsAt.form {l : List Tp} (h : TpsAt w v l) : ∃ A c, v = .slice A l.length c ∧ l.length ≤ c ∧ c ≤ 9223372036854775807 := by
  obtain ⟨A, c, e, h1, h2, _⟩ := h
  exact ⟨A, c, e, h1, by simpa [maxLen] using h2⟩
theorem TpsAt.at_ {A : Option Addr} {n c : Nat} {l : List Tp} (h : TpsAt w (.slice A n c) l) {k : Nat} (hk : k < l.length) :
    ∃ b o r, A = some ⟨b, o, none⟩ ∧ l[k]? = some r ∧ w.cell? ⟨b, o + k * 7, none⟩ = some (.int .i64 r.machine) ∧ w.cell? ⟨b, o + k * 7 + 1, none⟩ = some (.int .i64 r.number) ∧ w.cell? ⟨b, o + k * 7 + 2, none⟩ = some (.int .i64 r.card) ∧ w.cell? ⟨b, o + k * 7 + 3, none⟩ = some (.int .i64 r.ride.day) ∧ w.cell? ⟨b, o + k * 7 + 4, none⟩ = some (.int .i64 r.ride.minute) ∧ w.cell? ⟨b, o + k * 7 + 5, none⟩ = some (.int .i64 r.ride.low) ∧ w.cell? ⟨b, o + k * 7 + 6, none⟩ = some (.int .i64 r.ride.high) ∧ b < w.heap.size := by
  obtain ⟨A', c', e, _, _, hT⟩ := h
  cases e
  obtain ⟨b, o, e, hc⟩ := hT (by omega)
  obtain ⟨h0, h1, h2, h3, h4, h5, h6⟩ := hc k l[k] (List.getElem?_eq_getElem hk)
  exact ⟨b, o, _, e, List.getElem?_eq_getElem hk, h0, h1, h2, h3, h4, h5, h6, World.block_lt_of_cell? _ _ h1⟩
theorem TpsAt.nil (w : World) (c : Nat) (hc : c ≤ maxLen) (A : Option Addr) : TpsAt w (.slice A 0 c) [] := ⟨A, c, rfl, Nat.zero_le _, hc, fun h => absurd h (by simp)⟩
end
end Go.Proofs.Ytmbkpfkkohpnkaa
