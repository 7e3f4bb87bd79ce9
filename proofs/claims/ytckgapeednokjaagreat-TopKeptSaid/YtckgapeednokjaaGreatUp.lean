import Derived.Test.YtckgapeednokjaaGreatUo
import Derived.Shelf.Spec.SlicesGrow
set_option linter.unusedVariables false
set_option linter.unusedSimpArgs false
namespace Go.Proofs.YtckgapeednokjaaGreat
open Go Go.Proofs Go.RowKit

section
open Go.Shelf
def Tryz.growRec_ren : Go.Shelf.Ren := ⟨fun | 4 => 122 | n => n, fun | 22 => 37 | 25 => 89 | 3 => 3 | 4 => 4 | 9 => 9 | 20 => 20 | 0 => 0 | n => n, fun | n => n⟩
theorem Tryz.growRec : Go.Proofs.Lays8.n4 Tryz.prog Tryz.growRec_ren := {
  mixed := by kernel_rfl,
  f4 := ⟨Tryz.f122.name, by decide, Tryz.func122.trans (congrArg some (by kernel_rfl))⟩,
  t0 := Tryz.underlying0,
  a0 := Tryz.isAgg0,
  z0 := Tryz.sizeOf0,
  v0 := Tryz.zeroValue0,
  t3 := Tryz.underlying3,
  a3 := Tryz.isAgg3,
  z3 := Tryz.sizeOf3,
  v3 := Tryz.zeroValue3,
  t4 := Tryz.underlying4,
  a4 := Tryz.isAgg4,
  z4 := Tryz.sizeOf4,
  v4 := Tryz.zeroValue4,
  t9 := Tryz.underlying9,
  a9 := Tryz.isAgg9,
  z9 := Tryz.sizeOf9,
  v9 := Tryz.zeroValue9,
  t20 := Tryz.underlying20,
  a20 := Tryz.isAgg20,
  z20 := Tryz.sizeOf20,
  v20 := Tryz.zeroValue20,
  t22 := Tryz.underlying37,
  a22 := Tryz.isAgg37,
  z22 := Tryz.sizeOf37,
  v22 := Tryz.zeroValue37 }
end
/-! ### slices.Concat of one list -/
theorem src_of_recs {w : World} {A : Option Addr} {n c : Nat} {l : List Rc} (h : RecsAt w (.slice A n c) l) : Src w A l.length 6 (recCells l) := by
  obtain ⟨A', c', e, _, _, hT⟩ := h
  cases e
  refine ⟨flat_length (f := recC) (n := 6) (fun _ => rfl) l, fun hp => ?_⟩
  obtain ⟨b, o, e, hc⟩ := hT hp
  refine ⟨_, e, fun j u hu => ?_⟩
  have hlen : (recCells l).length = l.length * 6 := flat_length (f := recC) (n := 6) (fun _ => rfl) l
  have hj := (List.getElem?_eq_some_iff.1 hu).1
  have hk : j / 6 < l.length := by omega
  have hg := flat_get (f := recC) (n := 6) (fun _ => rfl) (l := l) (k := j / 6) (j := j % 6) (List.getElem?_eq_getElem hk) (Nat.mod_lt _ (by omega))
  rw [show j / 6 * 6 + j % 6 = j by omega] at hg
  unfold recCells at hu
  rw [hg] at hu
  obtain ⟨c0, c1, c2, c3, c4, c5⟩ := hc (j / 6) _ (List.getElem?_eq_getElem hk)
  rw [Addr.add_lit, show o + j = o + j / 6 * 6 + j % 6 by omega]
  have hm : j % 6 < 6 := Nat.mod_lt _ (by omega)
  match h : j % 6, hm with
  | 0, _ => rw [h] at hu; rw [← hu]; exact c0
  | 1, _ => rw [h] at hu; rw [← hu]; exact c1
  | 2, _ => rw [h] at hu; rw [← hu]; exact c2
  | 3, _ => rw [h] at hu; rw [← hu]; exact c3
  | 4, _ => rw [h] at hu; rw [← hu]; exact c4
  | 5, _ => rw [h] at hu; rw [← hu]; exact c5
theorem recs_one (l : List Rc) : ∀ u ∈ recCells l, u.oneCell' = true := fun u hu => by
  obtain ⟨r, _, h⟩ := List.mem_flatMap.1 hu
  simp only [recC, List.mem_cons, List.not_mem_nil, or_false] at h
  rcases h with rfl | rfl | rfl | rfl | rfl | rfl <;> rfl
theorem grow_nil (n : Nat) (hn : n ≤ 1000000) (w : World) : Calls Tryz.prog 122 #[.slice none 0 0, .int .i64 n] w (fun e w' => ∃ A c, e = .returned (.slice A 0 c) ∧ w'.ownsRow w.heap.size 89 6 (.slice A 0 c) 0 [] ∧ Below w.heap.size w w') := by
  rcases Nat.eq_zero_or_pos n with rfl | hp
  · have h := Any8.slices_Grow_room Tryz.growRec none 0 0 0 w (by omega) (by omega) (by omega) (by omega)
    change Calls Tryz.prog 122 _ _ _ at h
    refine h.mono ?_
    rintro e w' ⟨rfl, rfl⟩
    exact ⟨none, 0, rfl, World.ownsRow_nil _ _ _ _, Below.refl _ _⟩
  · obtain ⟨i0, hi0, hz0, hz1, hz2⟩ := info_parts infoRcS
    have h := Any8.slices_Grow_grow Tryz.growRec i0 _ hi0 hz0 (by omega) none 0 0 n [] w (by omega) (by omega) (by rw [hz2]; omega) (by omega) (by simp) (fun _ => rfl) (fun a h => by cases h)
    change Calls Tryz.prog 122 _ _ _ at h
    refine h.mono ?_
    rintro e w' ⟨rfl, rfl⟩
    have h1 := grownCap_ge w (0 + n) 0 89
    have h2 := grownCap_le_maxLen w (0 + n) 0 89 (by simp [maxLen]; omega)
    refine ⟨some ⟨w.heap.size, 0, none⟩, _, rfl, ⟨by simp, .inr ⟨w.heap.size, _, _, rfl, Nat.le_refl _, heap_alloc_new w.drew _, Nat.zero_le _, h2, ?_, by simp⟩⟩, (Below.refl _ _).drew.alloc (Nat.le_refl _) _⟩
    simp only [Array.size_append, size_zeroCells, Value.cells]
    change 0 + (0 + n - 0) * 6 + (grownCap w (0 + n) 0 89 - (0 + n)) * 6 = grownCap w (0 + n) 0 89 * 6
    omega
set_option maxRecDepth 100000 in
set_option maxHeartbeats 3200000 in
theorem Concat_one (b o c : Nat) (u : Value) (x : List Rc) (w : World) (hcell : w.cell? ⟨b, o, none⟩ = some u) (hu : RecsAt w u x) (h60 : x.length ≤ 1000) : Calls Tryz.prog 71 #[.slice (some ⟨b, o, none⟩) 1 c] w (GivesRecs x w) := by
  obtain ⟨A, cu, rfl, _, _⟩ := hu.form
  obtain ⟨i0, hi0, hz0, hz1, hz2⟩ := info_parts infoRcS
  obtain ⟨N, hN⟩ : ∃ N, x.length = N := ⟨_, rfl⟩
  have hsrc0 := fun (w' : World) (hb : Below w.heap.size w w') => src_of_recs (hu.below hb)
  rw [hN] at hcell hsrc0 h60
  have Hs := Lib.hid hsrc0
  have HN := Lib.hid hN
  have Hc := Lib.hid hcell
  have hN0 : ¬ (N : Int) < 0 := by omega
  clear hu hN hsrc0 hcell
  go_enter Tryz.func71, Tryz.ntmps71
  go_wp2
  go_loop [3, 11] (fun s i => (i = .int .i64 0 ∧ s = .int .i64 0) ∨ (i = .int .i64 1 ∧ s = .int .i64 (N : Int))) (fun s i => 1 - (intOf i).toNat)
  case atStart => exact .inl ⟨rfl, rfl⟩
  case round =>
    rcases hrel with ⟨rfl, rfl⟩ | ⟨rfl, rfl⟩
    · have hcell := Hc.out
      go_wp2
      go_round
      case rel => exact .inr ⟨by go_num, rfl⟩
      case measure => simp [intOf]
    · go_wp2_with fail
      refine (grow_nil N (by omega) w).mono ?_
      rintro e w1 ⟨A1, c1, rfl, hown1, hb1⟩
      have Hown1 := Lib.hid hown1
      have Hb1 := Lib.hid hb1
      clear hown1 hb1
      go_wp2
      go_loopw [6, 27] (fun out i wr => (i = .int .i64 0 ∧ out = .slice A1 0 c1 ∧ wr = w1) ∨ (i = .int .i64 1 ∧ ∃ A2 c2, out = .slice A2 N c2 ∧ wr.ownsRow w.heap.size 89 6 (.slice A2 N c2) N (recCells x) ∧ Below w.heap.size w wr)) (fun out i wr => 1 - (intOf i).toNat)
      case atStart => exact .inl ⟨rfl, rfl, rfl⟩
      case round =>
        rcases hrel with ⟨rfl, rfl, rfl⟩ | ⟨rfl, A2, c2, rfl, hown2, hb2⟩
        · have hcell := cell_below Hb1.out Hc.out
          have hsz := Hb1.out.size
          go_wp2_with (at_builtin; go_loud (refine wpList_append_src _ rfl (.tmp 31) (.tmp 32) 37 rfl w.heap.size 89 i0 _ 6 48 Tryz.underlying37 hi0 hz0 hz1 hz2 rfl (by omega) _ 0 [] rfl Hown1.out A N cu (recCells x) rfl (Hs.out _ Hb1.out) (recs_one x) (by simp [maxLen]; omega) (by omega) hsz ?_); intro v2 w2 hown2 hg2 _; have hb2 := below_grown Hb1.out hg2 hsz Hown1.out (Nat.le_refl _); have Hb2 := Lib.hid hb2; obtain ⟨A2, c2, rfl⟩ := own_form hown2; have Hown2 := Lib.hid hown2; clear hown2 hg2 hb2)
          go_roundw
          case rel => exact .inr ⟨by go_num, A2, c2, rfl, by have h := Hown2.out; simp only [Nat.zero_add, List.nil_append] at h; exact h, Hb2.out⟩
          case measure => simp [intOf]
        · have Hown2 := Lib.hid hown2
          have Hb2 := Lib.hid hb2
          clear hown2 hb2
          go_wp2
          go_ret
          exact ⟨A2, c2, by rw [HN.out]; rfl, by rw [HN.out]; exact Hown2.out, Hb2.out⟩
end Go.Proofs.YtckgapeednokjaaGreat
