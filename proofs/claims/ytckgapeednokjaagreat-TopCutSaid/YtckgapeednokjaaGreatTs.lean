import Derived.Test.YtckgapeednokjaaGreatTr
import Derived.Test.YtckgapeednokjaaGreatTq
set_option linter.unusedVariables false
set_option linter.unusedSimpArgs false
namespace Go.Proofs.YtckgapeednokjaaGreat
open Go Go.Proofs Go.RowKit

/-! ### cuts -/
def oneT : Tab := ⟨1, 0, [[0]], [⟨0, 0, 5, 2, 3, 0⟩]⟩
def oneL : DLaw := ⟨3, 3, 3, 1, 0, 0, 0, 1⟩
def oneD : DDay := ⟨oneL, [[⟨0, 5, 5⟩, ⟨0, 7, 8⟩]], [[0]]⟩
theorem oneT_ok : TabOk oneT := by
  refine ⟨by decide, by decide, by decide, by decide, fun a l h => ?_, fun x hx => ?_⟩
  · match a, h with
    | 0, h => cases h; exact ⟨by decide, by decide, by decide⟩
  · obtain rfl := List.mem_singleton.1 hx
    exact ⟨by decide, by decide, by decide, by decide, by decide, by decide⟩
theorem oneD_mild : Mild oneD := ⟨by decide, fun b x hx => by have := List.mem_of_getElem? hx; revert x; intro x hx hm; obtain rfl := List.mem_singleton.1 hm; decide, by decide, fun b x hx => by have := List.mem_of_getElem? hx; revert x; intro x hx hm; obtain rfl := List.mem_singleton.1 hm; decide⟩
theorem oneD_legal : legalQ oneD [0] = true ∧ askE oneD [0] = 0 := by decide +kernel
theorem cut_one {M : Nat → Nat → Prop} {c : List (List Nat)} (h : IsCut 1 M c) : c.length = 1 := by
  have h1 := blocks_len h.ne
  have h2 := h.all
  cases c with
  | nil => simp at h2
  | cons a l => simp only [List.length_cons] at h1 ⊢; omega
theorem nums_one {W : World} {b : Nat} {x : Int} (h0 : W.cell? ⟨b, 0, none⟩ = some (.int .i64 x)) : NumsAt .i64 W (.slice (some ⟨b, 0, none⟩) 1 1) [x] := by
  refine ⟨_, 1, rfl, by simp, by simp [maxLen], fun _ => ⟨b, 0, rfl, fun k hk => ?_⟩⟩
  match k, hk with
  | 0, _ => simpa using h0
theorem rows_one {W : World} {b : Nat} {u : Value} {l : List Int} (h0 : W.cell? ⟨b, 0, none⟩ = some u) (hu : NumsAt .i64 W u l) : RowsAt W (.slice (some ⟨b, 0, none⟩) 1 1) [l] := by
  refine ⟨_, 1, rfl, by simp, by simp [maxLen], fun _ => ⟨b, 0, rfl, fun k hk => ?_⟩⟩
  match k, hk with
  | 0, _ => exact ⟨u, by simpa using h0, hu⟩
theorem blocks_one {W : World} {b : Nat} {u : Value} {l : List Rel} (h0 : W.cell? ⟨b, 0, none⟩ = some u) (hu : RelsAt W u l) : BlocksAt W (.slice (some ⟨b, 0, none⟩) 1 1) [l] := by
  refine ⟨_, 1, rfl, by simp, by simp [maxLen], fun _ => ⟨b, 0, rfl, fun k r hk => ?_⟩⟩
  match k, hk with
  | 0, hk => cases hk; exact ⟨u, by simpa using h0, hu⟩
theorem rels_cells' {W : World} {b n : Nat} {l : List Rel} (hn : l.length = n) (hm : n ≤ maxLen) (h : ∀ k r, l[k]? = some r → W.cell? ⟨b, k * 3, none⟩ = some (.int .i64 r.place) ∧ W.cell? ⟨b, k * 3 + 1, none⟩ = some (.int .i64 r.lo) ∧ W.cell? ⟨b, k * 3 + 2, none⟩ = some (.int .i64 r.hi)) : RelsAt W (.slice (some ⟨b, 0, none⟩) n n) l := by
  subst hn
  exact ⟨_, _, rfl, Nat.le_refl _, hm, fun _ => ⟨b, 0, rfl, fun k r hk => by simpa using h k r hk⟩⟩
theorem trips_one {W : World} {b : Nat} {r : Trip} (h0 : W.cell? ⟨b, 0, none⟩ = some (.int .i64 r.fr)) (h1 : W.cell? ⟨b, 1, none⟩ = some (.int .i64 r.to)) (h2 : W.cell? ⟨b, 2, none⟩ = some (.int .i64 r.start)) (h3 : W.cell? ⟨b, 3, none⟩ = some (.int .i64 r.least)) (h4 : W.cell? ⟨b, 4, none⟩ = some (.int .i64 r.most)) (h5 : W.cell? ⟨b, 5, none⟩ = some (.int .i64 r.kind)) : TripsAt W (.slice (some ⟨b, 0, none⟩) 1 1) [r] := by
  refine ⟨_, 1, rfl, by simp, by simp [maxLen], fun _ => ⟨b, 0, rfl, fun k x hk => ?_⟩⟩
  match k, hk with
  | 0, hk => cases hk; exact ⟨by simpa using h0, by simpa using h1, by simpa using h2, by simpa using h3, by simpa using h4, by simpa using h5⟩
theorem legal_one (u z v : Value) (w : World) (hda : DayAt w u z oneD) (hv : NumsAt .i64 w v [0]) : Calls Tryz.prog 45 #[.agg #[.int .i64 oneL.piece, .int .i64 oneL.drive, .int .i64 oneL.spread, .int .i64 oneL.brk, .int .i64 oneL.on, .int .i64 oneL.off, .int .i64 oneL.least, .int .i64 oneL.pieces, u, z], v] w (Gives w (.tuple #[.bool true, .int .i64 0])) := by
  have h := Legal_any oneD u z v [0] w hda oneD_mild hv (by simp)
  rw [oneD_legal.1, oneD_legal.2] at h
  exact h
set_option maxRecDepth 100000 in
set_option maxHeartbeats 3200000 in
theorem cuts_any (w : World) : Calls Tryz.prog 15 #[] w (Gives w (.bool true)) := by
  go_enter Tryz.func15, Tryz.ntmps15
  go_wp2_with fail
  have hba : Below w.heap.size w (((w.alloc (.cells #[.int .i64 0] 3)).alloc (.cells #[.slice (some ⟨w.heap.size, 0, none⟩) 1 1] 29)).alloc (.cells #[.int .i64 0, .int .i64 0, .int .i64 5, .int .i64 2, .int .i64 3, .int .i64 0] 112)) := (((Below.refl _ _).alloc (Nat.le_refl _) _).alloc (by simp <;> omega) _).alloc (by simp <;> omega) _
  refine (Cut_any oneT (.slice (some ⟨w.heap.size + 1, 0, none⟩) 1 1) (.slice (some ⟨w.heap.size + 1 + 1, 0, none⟩) 1 1) _ ⟨rows_one (u := .slice (some ⟨w.heap.size, 0, none⟩) 1 1) (by simp [go_sem]) (nums_one (by simp [go_sem])), trips_one (by simp [go_sem]) (by simp [go_sem]) (by simp [go_sem]) (by simp [go_sem]) (by simp [go_sem]) (by simp [go_sem])⟩ oneT_ok).mono ?_
  rintro e w1 ⟨c, A, k, rfl, _, hc, hb1⟩
  rw [cut_one hc]
  have hw1 := hba.trans (hb1.mono hba.size)
  clear hba hb1 hc
  go_wp2_with fail
  have hba : Below w1.heap.size w1 (((((w1.alloc (.cells #[.int .i64 0] 3)).alloc (.cells #[.slice (some ⟨w1.heap.size, 0, none⟩) 1 1] 29)).alloc (.cells #[.int .i64 0, .int .i64 5, .int .i64 5, .int .i64 0, .int .i64 7, .int .i64 8] 118)).alloc (.cells #[.slice (some ⟨w1.heap.size + 1 + 1, 0, none⟩) 2 2] 119)).alloc (.cells #[.int .i64 0] 3)) := (((((Below.refl _ _).alloc (Nat.le_refl _) _).alloc (by simp <;> omega) _).alloc (by simp <;> omega) _).alloc (by simp <;> omega) _).alloc (by simp <;> omega) _
  refine (legal_one (.slice (some ⟨w1.heap.size + 1 + 1 + 1, 0, none⟩) 1 1) (.slice (some ⟨w1.heap.size + 1, 0, none⟩) 1 1) _ _ ⟨?_, ?_⟩ ?_).mono ?_
  · refine blocks_one (u := .slice (some ⟨w1.heap.size + 1 + 1, 0, none⟩) 2 2) (by simp [go_sem]) (rels_cells' rfl (by simp [maxLen]) fun k r hk => ?_)
    match k, hk with
    | 0, hk => cases hk; refine ⟨?_, ?_, ?_⟩ <;> simp [go_sem]
    | 1, hk => cases hk; refine ⟨?_, ?_, ?_⟩ <;> simp [go_sem]
  · exact rows_one (u := .slice (some ⟨w1.heap.size, 0, none⟩) 1 1) (by simp [go_sem]) (nums_one (by simp [go_sem]))
  · exact nums_one (by simp [go_sem])
  · rintro e w2 ⟨rfl, hb2⟩
    have hw2 := hw1.trans ((hba.trans (hb2.mono hba.size)).mono hw1.size)
    clear hba hb2 hw1
    go_wp2
    go_ret
    exact ⟨rfl, hw2⟩
end Go.Proofs.YtckgapeednokjaaGreat
