import Derived.Test.YtmbkpfkkohpnkaaSo
set_option linter.unusedVariables false
set_option linter.unusedSimpArgs false
namespace Go.Proofs.Ytmbkpfkkohpnkaa
open Go Go.Proofs Go.RowKit

theorem flat_get {α : Type} {f : α → List Value} {n : Nat} (hn : ∀ a, (f a).length = n) : ∀ {l : List α} {k j : Nat} {a : α}, l[k]? = some a → j < n → (l.flatMap f)[k * n + j]? = (f a)[j]?
  | [], k, j, a, h, _ => by simp at h
  | x :: l, 0, j, a, h, hj => by
    simp at h
    subst h
    rw [List.flatMap_cons, List.getElem?_append, if_pos (by rw [hn]; omega)]
    simp
  | x :: l, k + 1, j, a, h, hj => by
    rw [List.flatMap_cons, List.getElem?_append, if_neg (by rw [hn, Nat.succ_mul]; omega)]
    have := flat_get (f := f) hn (l := l) (k := k) (j := j) (a := a) (by simpa using h) hj
    rw [← this]
    congr 1
    rw [hn, Nat.succ_mul]
    omega
theorem flat_length {α : Type} {f : α → List Value} {n : Nat} (hn : ∀ a, (f a).length = n) : ∀ (l : List α), (l.flatMap f).length = l.length * n
  | [] => by simp
  | x :: l => by rw [List.flatMap_cons, List.length_append, hn, flat_length hn l, List.length_cons, Nat.succ_mul]; omega
theorem rds_one (l : List Rd) : ∀ u ∈ l.flatMap rdC, u.oneCell' = true := fun u hu => by
  obtain ⟨r, _, h⟩ := List.mem_flatMap.1 hu
  simp only [rdC, List.mem_cons, List.not_mem_nil, or_false] at h
  rcases h with rfl | rfl | rfl | rfl <;> rfl
theorem rds_src {w : World} {A : Option Addr} {n c : Nat} {l : List Rd} (h : RdsAt w (.slice A n c) l) : Src w A l.length 4 (l.flatMap rdC) := by
  obtain ⟨A', c', e, _, _, hT⟩ := h
  cases e
  refine ⟨flat_length (f := rdC) (n := 4) (fun _ => rfl) l, fun hp => ?_⟩
  obtain ⟨b, o, e, hc⟩ := hT hp
  refine ⟨_, e, fun j u hu => ?_⟩
  have hj : j < l.length * 4 := by
    have h1 := (List.getElem?_eq_some_iff.1 hu).1
    rwa [flat_length (f := rdC) (n := 4) (fun _ => rfl) l] at h1
  have hk : j / 4 < l.length := by omega
  have hg := flat_get (f := rdC) (n := 4) (fun _ => rfl) (List.getElem?_eq_getElem hk) (Nat.mod_lt j (by omega : 0 < 4))
  have ej : j / 4 * 4 + j % 4 = j := by omega
  rw [ej, hu] at hg
  obtain ⟨c0, c1, c2, c3⟩ := hc _ _ (List.getElem?_eq_getElem hk)
  rw [Addr.add_lit, ← ej]
  have hm : j % 4 < 4 := Nat.mod_lt j (by omega)
  generalize j / 4 = q at *
  generalize j % 4 = m at *
  match m, hm, hg with
  | 0, _, hg => simp only [rdC, List.getElem?_cons_zero, List.getElem?_cons_succ, Option.some.injEq] at hg; subst hg; simpa [Nat.add_assoc] using c0
  | 1, _, hg => simp only [rdC, List.getElem?_cons_zero, List.getElem?_cons_succ, Option.some.injEq] at hg; subst hg; simpa [Nat.add_assoc] using c1
  | 2, _, hg => simp only [rdC, List.getElem?_cons_zero, List.getElem?_cons_succ, Option.some.injEq] at hg; subst hg; simpa [Nat.add_assoc] using c2
  | 3, _, hg => simp only [rdC, List.getElem?_cons_zero, List.getElem?_cons_succ, Option.some.injEq] at hg; subst hg; simpa [Nat.add_assoc] using c3
theorem rds_own {w : World} {base : Nat} {e : TypeId} {v : Value} {n : Nat} {l : List Rd} (h : w.ownsRow base e 4 v n (l.flatMap rdC)) : RdsAt w v l := by
  have hl := flat_length (f := rdC) (n := 4) (fun _ => rfl) l
  have hn : l.length = n := by have := h.1; omega
  rcases h.2 with ⟨rfl, h0⟩ | ⟨g, cap, cur, rfl, _, hg, hc, hm, hs, ht⟩
  · have : l.length = 0 := by omega
    exact ⟨none, 0, by rw [this], by omega, by simp [maxLen], fun hp => by omega⟩
  · refine ⟨some ⟨g, 0, none⟩, cap, by rw [hn], by omega, hm, fun hp => ⟨g, 0, rfl, fun k r hr => ?_⟩⟩
    have hk := (List.getElem?_eq_some_iff.1 hr).1
    have hat : ∀ j, j < 4 → w.cell? ⟨g, k * 4 + j, none⟩ = (rdC r)[j]? := fun j hj => by
      rw [h.cellAt (k * 4 + j) (by omega)]
      exact flat_get (f := rdC) (n := 4) (fun _ => rfl) hr hj
    simp only [Nat.zero_add]
    exact ⟨hat 0 (by omega), hat 1 (by omega), hat 2 (by omega), hat 3 (by omega)⟩
theorem info_rds : (Try.prog.info? 70).map (fun i => (i.zero, i.size, i.bytes)) = some (some (.agg #[.int .i64 0, .int .i64 0, .int .i64 0, .int .i64 0]), 4, 32) := by kernel_rfl
set_option maxRecDepth 100000 in
theorem clone_rds (v : Value) (l : List Rd) (w : World) (hv : RdsAt w v l) (hl : l.length ≤ 1000000) : Calls Try.prog 97 #[v] w fun e w' => ∃ A c, e = .returned (.slice A l.length c) ∧ w'.ownsRow w.heap.size 70 4 (.slice A l.length c) l.length (l.flatMap rdC) ∧ Below w.heap.size w w' := by
  obtain ⟨A, c, rfl, hc, hm⟩ := hv.form
  obtain ⟨i0, hi0, hz0, hz1, hz2⟩ := info_parts info_rds
  have hb0 : Below w.heap.size w (w.alloc (.cells #[] 70)) := (Below.refl _ _).alloc (Nat.le_refl _) _
  have ho : (w.alloc (.cells #[] 70)).ownsRow w.heap.size 70 4 (.slice (some ⟨w.heap.size, 0, none⟩) 0 0) 0 [] := World.ownsRow_lit w #[] 0 (Nat.le_refl _) (by simp [maxLen]) (by simp)
  have q22 : ∀ (w : World) (a : Option Addr) (n c n' c' : Nat), (binOp .eql 37 (.slice a n c) (.slice none n' c')).run Try.prog w = .ok (.bool a.isNone) w := fun w a n c n' c' => Lib.run_eql_slice_nil w _ _ a n c n' c' Try.underlying37
  rcases A with _ | ad
  · have h0 : l = [] := by
      rcases l with _ | ⟨x, l⟩
      · rfl
      · obtain ⟨b, o, r, e, _⟩ := hv.at_ (k := 0) (by simp)
        cases e
    subst h0
    have hs := rds_src (hv.below hb0)
    simp only [List.length_nil] at hs ⊢
    go_enter Try.func97, Try.ntmps97
    go_wp2
    go_ret
    exact ⟨none, 0, rfl, World.ownsRow_nil _ _ _ _, Below.refl _ _⟩
  · go_enter Try.func97, Try.ntmps97
    go_wp2_with (at_builtin; refine wpList_append_src _ rfl (.tmp 5) (.tmp 6) 37 rfl w.heap.size 70 i0 _ 4 32 Try.underlying37 hi0 hz0 hz1 hz2 rfl (by omega) _ 0 [] rfl ho (some ad) l.length c (l.flatMap rdC) rfl (rds_src (hv.below hb0)) (rds_one l) (by simp [maxLen]; omega) (by omega) (by simp) ?_; intro v1 w1 hown1 hg1 hat1)
    go_ret
    rw [Nat.zero_add, List.nil_append] at hown1
    obtain ⟨A1, c1, rfl⟩ := own_form hown1
    exact ⟨A1, c1, rfl, hown1, below_grown hb0 hg1 (by simp) ho (Nat.le_refl _)⟩
def tkC (r : Tk) : List Value := [.int .u8 (r.kind : Int), .int .i64 r.low, .int .i64 r.high, .int .i64 r.day, .int .i64 r.minute]
theorem tks_one (l : List Tk) : ∀ u ∈ l.flatMap tkC, u.oneCell' = true := fun u hu => by
  obtain ⟨r, _, h⟩ := List.mem_flatMap.1 hu
  simp only [tkC, List.mem_cons, List.not_mem_nil, or_false] at h
  rcases h with rfl | rfl | rfl | rfl | rfl <;> rfl
theorem tks_src {w : World} {A : Option Addr} {n c : Nat} {l : List Tk} (h : TksAt w (.slice A n c) l) : Src w A l.length 5 (l.flatMap tkC) := by
  obtain ⟨A', c', e, _, _, hT⟩ := h
  cases e
  refine ⟨flat_length (f := tkC) (n := 5) (fun _ => rfl) l, fun hp => ?_⟩
  obtain ⟨b, o, e, hc⟩ := hT hp
  refine ⟨_, e, fun j u hu => ?_⟩
  have hj : j < l.length * 5 := by
    have h1 := (List.getElem?_eq_some_iff.1 hu).1
    rwa [flat_length (f := tkC) (n := 5) (fun _ => rfl) l] at h1
  have hk : j / 5 < l.length := by omega
  have hg := flat_get (f := tkC) (n := 5) (fun _ => rfl) (List.getElem?_eq_getElem hk) (Nat.mod_lt j (by omega : 0 < 5))
  have ej : j / 5 * 5 + j % 5 = j := by omega
  rw [ej, hu] at hg
  obtain ⟨c0, c1, c2, c3, c4⟩ := hc _ _ (List.getElem?_eq_getElem hk)
  rw [Addr.add_lit, ← ej]
  have hm : j % 5 < 5 := Nat.mod_lt j (by omega)
  generalize j / 5 = q at *
  generalize j % 5 = m at *
  match m, hm, hg with
  | 0, _, hg => simp only [tkC, List.getElem?_cons_zero, List.getElem?_cons_succ, Option.some.injEq] at hg; subst hg; simpa [Nat.add_assoc] using c0
  | 1, _, hg => simp only [tkC, List.getElem?_cons_zero, List.getElem?_cons_succ, Option.some.injEq] at hg; subst hg; simpa [Nat.add_assoc] using c1
  | 2, _, hg => simp only [tkC, List.getElem?_cons_zero, List.getElem?_cons_succ, Option.some.injEq] at hg; subst hg; simpa [Nat.add_assoc] using c2
  | 3, _, hg => simp only [tkC, List.getElem?_cons_zero, List.getElem?_cons_succ, Option.some.injEq] at hg; subst hg; simpa [Nat.add_assoc] using c3
  | 4, _, hg => simp only [tkC, List.getElem?_cons_zero, List.getElem?_cons_succ, Option.some.injEq] at hg; subst hg; simpa [Nat.add_assoc] using c4
theorem tks_own {w : World} {base : Nat} {e : TypeId} {v : Value} {n : Nat} {l : List Tk} (h : w.ownsRow base e 5 v n (l.flatMap tkC)) : TksAt w v l := by
  have hl := flat_length (f := tkC) (n := 5) (fun _ => rfl) l
  have hn : l.length = n := by have := h.1; omega
  rcases h.2 with ⟨rfl, h0⟩ | ⟨g, cap, cur, rfl, _, hg, hc, hm, hs, ht⟩
  · have : l.length = 0 := by omega
    exact ⟨none, 0, by rw [this], by omega, by simp [maxLen], fun hp => by omega⟩
  · refine ⟨some ⟨g, 0, none⟩, cap, by rw [hn], by omega, hm, fun hp => ⟨g, 0, rfl, fun k r hr => ?_⟩⟩
    have hk := (List.getElem?_eq_some_iff.1 hr).1
    have hat : ∀ j, j < 5 → w.cell? ⟨g, k * 5 + j, none⟩ = (tkC r)[j]? := fun j hj => by
      rw [h.cellAt (k * 5 + j) (by omega)]
      exact flat_get (f := tkC) (n := 5) (fun _ => rfl) hr hj
    simp only [Nat.zero_add]
    exact ⟨hat 0 (by omega), hat 1 (by omega), hat 2 (by omega), hat 3 (by omega), hat 4 (by omega)⟩
theorem info_tks : (Try.prog.info? 89).map (fun i => (i.zero, i.size, i.bytes)) = some (some (.agg #[.int .u8 0, .int .i64 0, .int .i64 0, .int .i64 0, .int .i64 0]), 5, 40) := by kernel_rfl
set_option maxRecDepth 100000 in
theorem clone_tks (v : Value) (l : List Tk) (w : World) (hv : TksAt w v l) (hl : l.length ≤ 1000000) : Calls Try.prog 80 #[v] w fun e w' => ∃ A c, e = .returned (.slice A l.length c) ∧ w'.ownsRow w.heap.size 89 5 (.slice A l.length c) l.length (l.flatMap tkC) ∧ Below w.heap.size w w' := by
  obtain ⟨A, c, rfl, hc, hm⟩ := hv.form
  obtain ⟨i0, hi0, hz0, hz1, hz2⟩ := info_parts info_tks
  have hb0 : Below w.heap.size w (w.alloc (.cells #[] 89)) := (Below.refl _ _).alloc (Nat.le_refl _) _
  have ho : (w.alloc (.cells #[] 89)).ownsRow w.heap.size 89 5 (.slice (some ⟨w.heap.size, 0, none⟩) 0 0) 0 [] := World.ownsRow_lit w #[] 0 (Nat.le_refl _) (by simp [maxLen]) (by simp)
  have q22 : ∀ (w : World) (a : Option Addr) (n c n' c' : Nat), (binOp .eql 34 (.slice a n c) (.slice none n' c')).run Try.prog w = .ok (.bool a.isNone) w := fun w a n c n' c' => Lib.run_eql_slice_nil w _ _ a n c n' c' Try.underlying34
  rcases A with _ | ad
  · have h0 : l = [] := by
      rcases l with _ | ⟨x, l⟩
      · rfl
      · obtain ⟨b, o, r, e, _⟩ := hv.at_ (k := 0) (by simp)
        cases e
    subst h0
    have hs := tks_src (hv.below hb0)
    simp only [List.length_nil] at hs ⊢
    go_enter Try.func80, Try.ntmps80
    go_wp2
    go_ret
    exact ⟨none, 0, rfl, World.ownsRow_nil _ _ _ _, Below.refl _ _⟩
  · go_enter Try.func80, Try.ntmps80
    go_wp2_with (at_builtin; refine wpList_append_src _ rfl (.tmp 5) (.tmp 6) 34 rfl w.heap.size 89 i0 _ 5 40 Try.underlying34 hi0 hz0 hz1 hz2 rfl (by omega) _ 0 [] rfl ho (some ad) l.length c (l.flatMap tkC) rfl (tks_src (hv.below hb0)) (tks_one l) (by simp [maxLen]; omega) (by omega) (by simp) ?_; intro v1 w1 hown1 hg1 hat1)
    go_ret
    rw [Nat.zero_add, List.nil_append] at hown1
    obtain ⟨A1, c1, rfl⟩ := own_form hown1
    exact ⟨A1, c1, rfl, hown1, below_grown hb0 hg1 (by simp) ho (Nat.le_refl _)⟩
def tpC (r : Tp) : List Value := [.int .i64 r.machine, .int .i64 r.number, .int .i64 r.card, .int .i64 r.ride.day, .int .i64 r.ride.minute, .int .i64 r.ride.low, .int .i64 r.ride.high]
theorem tps_one (l : List Tp) : ∀ u ∈ l.flatMap tpC, u.oneCell' = true := fun u hu => by
  obtain ⟨r, _, h⟩ := List.mem_flatMap.1 hu
  simp only [tpC, List.mem_cons, List.not_mem_nil, or_false] at h
  rcases h with rfl | rfl | rfl | rfl | rfl | rfl | rfl <;> rfl
theorem tps_src {w : World} {A : Option Addr} {n c : Nat} {l : List Tp} (h : TpsAt w (.slice A n c) l) : Src w A l.length 7 (l.flatMap tpC) := by
  obtain ⟨A', c', e, _, _, hT⟩ := h
  cases e
  refine ⟨flat_length (f := tpC) (n := 7) (fun _ => rfl) l, fun hp => ?_⟩
  obtain ⟨b, o, e, hc⟩ := hT hp
  refine ⟨_, e, fun j u hu => ?_⟩
  have hj : j < l.length * 7 := by
    have h1 := (List.getElem?_eq_some_iff.1 hu).1
    rwa [flat_length (f := tpC) (n := 7) (fun _ => rfl) l] at h1
  have hk : j / 7 < l.length := by omega
  have hg := flat_get (f := tpC) (n := 7) (fun _ => rfl) (List.getElem?_eq_getElem hk) (Nat.mod_lt j (by omega : 0 < 7))
  have ej : j / 7 * 7 + j % 7 = j := by omega
  rw [ej, hu] at hg
  obtain ⟨c0, c1, c2, c3, c4, c5, c6⟩ := hc _ _ (List.getElem?_eq_getElem hk)
  rw [Addr.add_lit, ← ej]
  have hm : j % 7 < 7 := Nat.mod_lt j (by omega)
  generalize j / 7 = q at *
  generalize j % 7 = m at *
  match m, hm, hg with
  | 0, _, hg => simp only [tpC, List.getElem?_cons_zero, List.getElem?_cons_succ, Option.some.injEq] at hg; subst hg; simpa [Nat.add_assoc] using c0
  | 1, _, hg => simp only [tpC, List.getElem?_cons_zero, List.getElem?_cons_succ, Option.some.injEq] at hg; subst hg; simpa [Nat.add_assoc] using c1
  | 2, _, hg => simp only [tpC, List.getElem?_cons_zero, List.getElem?_cons_succ, Option.some.injEq] at hg; subst hg; simpa [Nat.add_assoc] using c2
  | 3, _, hg => simp only [tpC, List.getElem?_cons_zero, List.getElem?_cons_succ, Option.some.injEq] at hg; subst hg; simpa [Nat.add_assoc] using c3
  | 4, _, hg => simp only [tpC, List.getElem?_cons_zero, List.getElem?_cons_succ, Option.some.injEq] at hg; subst hg; simpa [Nat.add_assoc] using c4
  | 5, _, hg => simp only [tpC, List.getElem?_cons_zero, List.getElem?_cons_succ, Option.some.injEq] at hg; subst hg; simpa [Nat.add_assoc] using c5
  | 6, _, hg => simp only [tpC, List.getElem?_cons_zero, List.getElem?_cons_succ, Option.some.injEq] at hg; subst hg; simpa [Nat.add_assoc] using c6
theorem tps_own {w : World} {base : Nat} {e : TypeId} {v : Value} {n : Nat} {l : List Tp} (h : w.ownsRow base e 7 v n (l.flatMap tpC)) : TpsAt w v l := by
  have hl := flat_length (f := tpC) (n := 7) (fun _ => rfl) l
  have hn : l.length = n := by have := h.1; omega
  rcases h.2 with ⟨rfl, h0⟩ | ⟨g, cap, cur, rfl, _, hg, hc, hm, hs, ht⟩
  · have : l.length = 0 := by omega
    exact ⟨none, 0, by rw [this], by omega, by simp [maxLen], fun hp => by omega⟩
  · refine ⟨some ⟨g, 0, none⟩, cap, by rw [hn], by omega, hm, fun hp => ⟨g, 0, rfl, fun k r hr => ?_⟩⟩
    have hk := (List.getElem?_eq_some_iff.1 hr).1
    have hat : ∀ j, j < 7 → w.cell? ⟨g, k * 7 + j, none⟩ = (tpC r)[j]? := fun j hj => by
      rw [h.cellAt (k * 7 + j) (by omega)]
      exact flat_get (f := tpC) (n := 7) (fun _ => rfl) hr hj
    simp only [Nat.zero_add]
    exact ⟨hat 0 (by omega), hat 1 (by omega), hat 2 (by omega), hat 3 (by omega), hat 4 (by omega), hat 5 (by omega), hat 6 (by omega)⟩
theorem info_tps : (Try.prog.info? 91).map (fun i => (i.zero, i.size, i.bytes)) = some (some (.agg #[.int .i64 0, .int .i64 0, .int .i64 0, .int .i64 0, .int .i64 0, .int .i64 0, .int .i64 0]), 7, 56) := by kernel_rfl
end Go.Proofs.Ytmbkpfkkohpnkaa
