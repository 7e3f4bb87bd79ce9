import Derived.Test.YtmbkpfkkohpnkaaKo
import Derived.Test.YtmbkpfkkohpnkaaW7
import Derived.Test.YtmbkpfkkohpnkaaIt
import Derived.Test.YtmbkpfkkohpnkaaTo
set_option linter.unusedVariables false
set_option linter.unusedSimpArgs false
namespace Go.Proofs.Ytmbkpfkkohpnkaa
open Go Go.Proofs Go.RowKit

/-! ### Slices of slices of rides -/
def GsIn (w : World) (us : List Value) (gs : List (List Rd)) : Prop := us.length = gs.length ∧ ∀ (j : Nat) (g : List Rd), gs[j]? = some g → ∃ u, us[j]? = some u ∧ RdsAt w u g
theorem GsIn.below {w w' : World} {us : List Value} {gs : List (List Rd)} (h : GsIn w us gs) (hb : Below w.heap.size w w') : GsIn w' us gs :=
  ⟨h.1, fun j l hl => by obtain ⟨u, h1, h2⟩ := h.2 j l hl; exact ⟨u, h1, h2.below hb⟩⟩
theorem GsIn.snoc {w : World} {us : List Value} {gs : List (List Rd)} {u : Value} {g : List Rd} (h : GsIn w us gs) (hu : RdsAt w u g) : GsIn w (us ++ [u]) (gs ++ [g]) := by
  refine ⟨by simp [h.1], fun j l' hl => ?_⟩
  rw [List.getElem?_append] at hl
  split at hl
  · obtain ⟨x, h1, h2⟩ := h.2 j l' hl
    exact ⟨x, by rw [List.getElem?_append_left (by rw [h.1]; assumption)]; exact h1, h2⟩
  · rename_i hj
    have e : j = gs.length := by
      have := (List.getElem?_eq_some_iff.1 hl).1
      simp at this
      omega
    subst e
    simp at hl
    subst hl
    exact ⟨u, by rw [← h.1]; simp, hu⟩
theorem GsIn.set {w : World} {us : List Value} {gs : List (List Rd)} {u : Value} {g : List Rd} {i : Nat} (h : GsIn w us gs) (hi : i < gs.length) (hu : RdsAt w u g) : GsIn w (us.set i u) (gs.set i g) := by
  refine ⟨by simp [h.1], fun j l hl => ?_⟩
  by_cases e : i = j
  · subst e
    rw [List.getElem?_set_self hi] at hl
    cases hl
    exact ⟨u, List.getElem?_set_self (by rw [h.1]; exact hi), hu⟩
  · rw [List.getElem?_set_ne e] at hl
    obtain ⟨x, h1, h2⟩ := h.2 j l hl
    exact ⟨x, by rw [List.getElem?_set_ne e]; exact h1, h2⟩
theorem GsIn.one {w : World} {us : List Value} {gs : List (List Rd)} (h : GsIn w us gs) : ∀ u ∈ us, u.oneCell' = true := fun u hu => by
  obtain ⟨j, hj, rfl⟩ := List.getElem_of_mem hu
  obtain ⟨x, h1, h2⟩ := h.2 j (gs[j]'(by rw [← h.1]; exact hj)) (List.getElem?_eq_getElem _)
  rw [List.getElem?_eq_getElem hj] at h1
  cases h1
  obtain ⟨A, c, e, _⟩ := h2.form
  rw [e]
  rfl
def GsAt (w : World) (v : Value) (gs : List (List Rd)) : Prop :=
  ∃ A c, v = .slice A gs.length c ∧ gs.length ≤ c ∧ c ≤ maxLen ∧ (0 < gs.length → ∃ b o, A = some ⟨b, o, none⟩ ∧ ∀ k, k < gs.length → ∃ u, w.cell? ⟨b, o + k, none⟩ = some u ∧ RdsAt w u (gs[k]?.getD []))
theorem GsAt.below {w w' : World} {v : Value} {gs : List (List Rd)} (h : GsAt w v gs) (hb : Below w.heap.size w w') : GsAt w' v gs := by
  obtain ⟨A, c, e, h1, h2, h3⟩ := h
  refine ⟨A, c, e, h1, h2, fun h0 => ?_⟩
  obtain ⟨b, o, e, hc⟩ := h3 h0
  refine ⟨b, o, e, fun k hk => ?_⟩
  obtain ⟨u, h4, h5⟩ := hc k hk
  exact ⟨u, cell_below hb h4, h5.below hb⟩
theorem GsAt.form {w : World} {v : Value} {gs : List (List Rd)} (h : GsAt w v gs) : ∃ A c, v = .slice A gs.length c ∧ gs.length ≤ c ∧ c ≤ 9223372036854775807 := by
  obtain ⟨A, c, e, h1, h2, _⟩ := h
  exact ⟨A, c, e, h1, by simpa [maxLen] using h2⟩
theorem GsAt.nil (w : World) (A : Option Addr) (c : Nat) (hc : c ≤ maxLen) : GsAt w (.slice A 0 c) [] := ⟨A, c, rfl, Nat.zero_le _, hc, fun h => absurd h (by simp)⟩
theorem GsAt.at_ {w : World} {A : Option Addr} {n c : Nat} {gs : List (List Rd)} (h : GsAt w (.slice A n c) gs) {k : Nat} (hk : k < gs.length) :
    ∃ b o g u, A = some ⟨b, o, none⟩ ∧ gs[k]? = some g ∧ w.cell? ⟨b, o + k, none⟩ = some u ∧ RdsAt w u g ∧ b < w.heap.size := by
  obtain ⟨A', c', e, _, _, hT⟩ := h
  cases e
  obtain ⟨b, o, e, hc⟩ := hT (by omega)
  obtain ⟨u, h1, h2⟩ := hc k hk
  rw [List.getElem?_eq_getElem hk, Option.getD_some] at h2
  exact ⟨b, o, _, u, e, List.getElem?_eq_getElem hk, h1, h2, World.block_lt_of_cell? _ _ h1⟩
theorem each_list {α : Type} {n : Nat} {p : Nat → α → Prop} (h : ∀ i, i < n → ∃ a, p i a) : ∃ l : List α, l.length = n ∧ ∀ i a, l[i]? = some a → p i a := by
  induction n with
  | zero => exact ⟨[], rfl, by simp⟩
  | succ n ih =>
    obtain ⟨l, h1, h2⟩ := ih fun i hi => h i (by omega)
    obtain ⟨a, ha⟩ := h n (by omega)
    refine ⟨l ++ [a], by simp [h1], fun i b hb => ?_⟩
    rw [List.getElem?_append] at hb
    split at hb
    · exact h2 i b hb
    · rename_i hi
      have hlt := (List.getElem?_eq_some_iff.1 hb).1
      simp at hlt
      obtain rfl : i = n := by omega
      rw [h1] at hb
      simp at hb
      subst hb
      exact ha
theorem gs_src {w : World} {A : Option Addr} {n c : Nat} {gs : List (List Rd)} (h : GsAt w (.slice A n c) gs) : ∃ us, Src w A n 1 us ∧ GsIn w us gs := by
  obtain ⟨A', c', e, h1, h2, h3⟩ := h
  cases e
  rcases Nat.eq_zero_or_pos gs.length with h0 | h0
  · have : gs = [] := List.eq_nil_of_length_eq_zero h0
    subst this
    exact ⟨[], ⟨rfl, by simp⟩, rfl, by simp⟩
  · obtain ⟨b, o, rfl, hc⟩ := h3 h0
    obtain ⟨us, hus, hp⟩ := each_list (n := gs.length) (p := fun k u => w.cell? ⟨b, o + k, none⟩ = some u ∧ RdsAt w u (gs[k]?.getD [])) hc
    refine ⟨us, ⟨by omega, fun _ => ⟨_, rfl, fun j u hu => ?_⟩⟩, hus, fun j l hl => ?_⟩
    · have := (hp j u hu).1
      rw [Addr.add_lit]
      exact this
    · have hj := (List.getElem?_eq_some_iff.1 hl).1
      have hju : j < us.length := by omega
      have := (hp j _ (List.getElem?_eq_getElem hju)).2
      rw [hl] at this
      exact ⟨_, List.getElem?_eq_getElem hju, this⟩
theorem gs_of_in {w : World} {base : Nat} {e : TypeId} {v : Value} {n : Nat} {us : List Value} {gs : List (List Rd)} (h : w.ownsRow base e 1 v n us) (hr : GsIn w us gs) : GsAt w v gs := by
  have hn : gs.length = n := by rw [← hr.1]; simpa using h.1
  rcases h.2 with ⟨rfl, h0⟩ | ⟨g, cap, cur, rfl, _, hg, hc, hm, hs, ht⟩
  · have : gs = [] := List.eq_nil_of_length_eq_zero (by omega)
    subst this
    exact ⟨none, 0, rfl, by simp, by simp [maxLen], by simp⟩
  · subst hn
    refine ⟨_, cap, rfl, hc, hm, fun hp => ⟨g, 0, rfl, fun k hk => ?_⟩⟩
    obtain ⟨u, h1, h2⟩ := hr.2 k _ (List.getElem?_eq_getElem hk)
    rw [List.getElem?_eq_getElem hk, Option.getD_some]
    refine ⟨u, ?_, h2⟩
    rw [show 0 + k = k by omega, h.cellAt k (by omega), h1]
theorem Src.below {w w' : World} {A : Option Addr} {m size : Nat} {news : List Value} (h : Src w A m size news) (hb : Below w.heap.size w w') : Src w' A m size news :=
  ⟨h.1, fun h0 => by obtain ⟨ad, e, hc⟩ := h.2 h0; exact ⟨ad, e, fun j u hu => cell_below hb (hc j u hu)⟩⟩
/-- A block of another type stays, where an owned row is appended to. -/
theorem keep_type {w w' : World} {base g size n : Nat} {e T : TypeId} {v : Value} {xs : List Value} {cs : Array Value} (ho : w.ownsRow base e size v n xs) (hg : w.grownBy w' v.ownBlock) (hC : w.heap[g]? = some (.cells cs T (0, 0))) (hne : e ≠ T) : w'.heap[g]? = some (.cells cs T (0, 0)) := by
  refine (hg.block g (Array.getElem?_eq_some_iff.1 hC).1 (fun eq => ?_)).trans hC
  rcases ho.2 with ⟨rfl, _⟩ | ⟨g', cap, cur, rfl, _, hg', _⟩
  · cases eq
  · simp only [Value.ownBlock, Option.some.injEq] at eq
    subst eq
    rw [hC] at hg'
    cases hg'
    exact hne rfl
theorem rds_cell {w : World} {g : Nat} {r : Rd} {T : TypeId} (h : w.heap[g]? = some (.cells (rdC r).toArray T (0, 0))) : RdsAt w (.slice (some ⟨g, 0, none⟩) 1 1) [r] := by
  have hq := box_cells h
  refine ⟨_, 1, rfl, Nat.le_refl _, by simp [maxLen], fun _ => ⟨_, 0, rfl, fun j x hx => ?_⟩⟩
  have hj : j = 0 := by have := (List.getElem?_eq_some_iff.1 hx).1; simpa using this
  subst hj
  cases hx
  exact ⟨hq 0, hq 1, hq 2, hq 3⟩
theorem RdsAt.tail {w : World} {b o n c : Nat} {r : Rd} {l : List Rd} (h : RdsAt w (.slice (some ⟨b, o, none⟩) n c) (r :: l)) : RdsAt w (.slice (if c = 1 then some ⟨b, o, none⟩ else some ⟨b, o + 4, none⟩) (n - 1) (c - 1)) l := by
  obtain ⟨A, c', e, h1, h2, h3⟩ := h
  cases e
  simp only [List.length_cons, Nat.add_sub_cancel] at *
  refine ⟨_, c - 1, rfl, by omega, by omega, fun h0 => ?_⟩
  obtain ⟨b', o', e, h4⟩ := h3 (by omega)
  cases e
  refine ⟨b, o + 4, by rw [if_neg (by omega)], fun j x hr => ?_⟩
  have := h4 (j + 1) x (by simpa using hr)
  rw [show o + 4 + j * 4 = o + (j + 1) * 4 by omega]
  exact this
/-! ### Charge -/
theorem oneT_bd {t : Tar} (ht : tarB t = true) {g : List Rd} (hne : g ≠ []) (hr : ∀ r ∈ g, rideB t r = true) : 0 ≤ oneT t g ∧ oneT t g ≤ 10000 := by
  obtain ⟨x, _, _, e⟩ := one_some ht hne hr
  rw [← e]
  exact price_bd ht x
def GsFit (t : Tar) (n : Nat) (gs : List (List Rd)) : Prop := GsOk t gs ∧ n + gs.length ≤ 900 ∧ ∀ g ∈ gs, n + g.length ≤ 900
theorem GsFit.new {t : Tar} {n : Nat} {gs : List (List Rd)} {r : Rd} (h : GsFit t (n + 1) gs) (hr : rideB t r = true) : GsFit t n (gs ++ [[r]]) := by
  refine ⟨h.1.new hr, by have := h.2.1; simp; omega, fun g hg => ?_⟩
  rcases List.mem_append.1 hg with hg | hg
  · have := h.2.2 g hg; omega
  · simp only [List.mem_singleton] at hg
    subst hg
    have := h.2.1
    simp
    omega
theorem GsFit.put {t : Tar} {n : Nat} {gs : List (List Rd)} {r : Rd} {i : Nat} (h : GsFit t (n + 1) gs) (hr : rideB t r = true) (hi : i < gs.length) : GsFit t n (gs.set i (gs[i]?.getD [] ++ [r])) := by
  refine ⟨h.1.set hr hi, by have := h.2.1; simp; omega, fun g hg => ?_⟩
  rcases List.mem_or_eq_of_mem_set hg with hg | hg
  · have := h.2.2 g hg; omega
  · subst hg
    rw [List.getElem?_eq_getElem hi]
    have := h.2.2 _ (List.getElem_mem hi)
    simp
    omega
def chB (t : Tar) (rs : List Rd) (r : Rd) (gs : List (List Rd)) (i : Nat) : Int := ((List.range i).map fun i => chargeR t rs (gs.set i (gs[i]?.getD [] ++ [r]))).foldl min (chargeR t rs (gs ++ [[r]]))
theorem chB_succ (t : Tar) (rs : List Rd) (r : Rd) (gs : List (List Rd)) (i : Nat) : chB t rs r gs (i + 1) = min (chB t rs r gs i) (chargeR t rs (gs.set i (gs[i]?.getD [] ++ [r]))) := by
  unfold chB
  rw [List.range_succ, List.map_append, List.foldl_append]
  rfl
theorem chB_all (t : Tar) (rs : List Rd) (r : Rd) (gs : List (List Rd)) : chargeR t (r :: rs) gs = chB t rs r gs gs.length := rfl
set_option maxRecDepth 100000 in
set_option maxHeartbeats 2000000 in
theorem Charge_none (t : Tar) (gs : List (List Rd)) (a b c v z : Value) (w : World) (hT : TarAt w a b c t) (ht : tarB t = true) (hv : RdsAt w v []) (hz : GsAt w z gs) (hf : GsFit t 0 gs) :
    Calls Try.prog 27 #[.agg #[.int .i64 t.zones, a, b, c, .int .i64 t.window], v, z] w (Gives w (.int .i64 (chargeR t [] gs))) := by
  obtain ⟨AV, cv, rfl, _, _⟩ := hv.form
  obtain ⟨AZ, cz, rfl, _, _⟩ := hz.form
  simp only [List.length_nil]
  have h9 : gs.length ≤ 900 := by have := hf.2.1; omega
  have hl9 : ∀ g ∈ gs, g.length ≤ 900 := fun g hg => by have := hf.2.2 g hg; omega
  have hbd : ∀ x ∈ gs.map (oneT t), 0 ≤ x ∧ x ≤ 10000 := fun x hx => by
    obtain ⟨g, hg, rfl⟩ := List.mem_map.1 hx
    exact oneT_bd ht (hf.1 g hg).1 (hf.1 g hg).2
  obtain ⟨M, hM⟩ : ∃ M, gs.length = M := ⟨_, rfl⟩
  rw [hM] at hz h9 ⊢
  have HM := Lib.hid hM
  have HT := Lib.hid hT
  have Ht := Lib.hid ht
  have Hz := Lib.hid hz
  have Hf := Lib.hid hf
  have Hbd := Lib.hid hbd
  have Hl9 := Lib.hid hl9
  obtain ⟨E, hE⟩ : ∃ E, chargeR t [] gs = E := ⟨_, rfl⟩
  rw [hE]
  have HE := Lib.hid hE
  clear hT ht hv hz hf hM hbd hl9 hE
  go_enter Try.func27, Try.ntmps27
  go_upto_region 1 with (fail)
  refine wp_name (fun W => Below w.heap.size w W ∧ W.heap[w.heap.size]? = some (.cells #[.int .i64 t.zones, a, b, c, .int .i64 t.window] 24 (0, 0))) ⟨(Below.refl _ _).alloc (Nat.le_refl _) _, heap_alloc_new w _⟩ (fun W0 hW => ?_)
  obtain ⟨hb0, hx0⟩ := hW
  have HB0 := Lib.hid hb0
  have HX0 := Lib.hid hx0
  clear hb0 hx0
  go_wp2
  go_loopw [7, 8] (fun sn si wr => ∃ i : Nat, i ≤ M ∧ sn = .int .i64 (sumI ((gs.map (oneT t)).take i)) ∧ si = .int .i64 (i : Int) ∧ Below W0.heap.size W0 wr) (fun sn si wr => M - (intOf si).toNat)
  case atStart => exact ⟨0, by omega, rfl, rfl, Below.refl _ _⟩
  case round =>
    obtain ⟨i, hi, rfl, rfl, hbr⟩ := hrel
    have Hbr := Lib.hid hbr
    have Hbw := Lib.hid (HB0.out.trans (hbr.mono HB0.out.size))
    have Hxr := Lib.hid ((hbr.block _ (Array.getElem?_eq_some_iff.1 HX0.out).1).trans HX0.out)
    clear hbr
    by_cases hlt : i < M
    · have ii : (i : Int) < (M : Int) := by omega
      obtain ⟨bz, oz, g, u, ea, hg, cu, hu, _⟩ := (Hz.out.below Hbw.out).at_ (k := i) (by rw [HM.out]; exact hlt)
      subst ea
      have hgm := List.mem_of_getElem? hg
      have hgo := Hf.out.1 g hgm
      have hgl := Hl9.out g hgm
      have hst := sumI_take (gs.map (oneT t)) (k := i) (x := oneT t g) (by rw [List.getElem?_map, hg]; rfl)
      have h1d := Hbd.out _ (List.mem_map_of_mem (f := oneT t) hgm)
      have hsd := sumI_bd (B := 10000) (l := (gs.map (oneT t)).take i) (fun x hx => Hbd.out x (List.mem_of_mem_take hx))
      have hsl : ((gs.map (oneT t)).take i).length ≤ 900 := by rw [List.length_take, List.length_map, HM.out]; omega
      obtain ⟨n, hn⟩ : ∃ n, sumI ((gs.map (oneT t)).take i) = n := ⟨_, rfl⟩
      rw [hn] at hst hsd ⊢
      cases g with
      | nil => exact absurd rfl hgo.1
      | cons r g =>
      have hon := Lib.hid (fun (W : World) (hW : Below wr.heap.size wr W) => One_ref t a b c u r g W ((HT.out.below Hbw.out).below hW) Ht.out (hu.below hW) hgo.2 (by omega))
      obtain ⟨p, hp⟩ : ∃ p, oneT t (r :: g) = p := ⟨_, rfl⟩
      rw [hp] at hst h1d hon
      have Hst := Lib.hid hst
      have q : IntKind.i64.wrap (n + p) = n + p := IntWalk.i64_in _ (by omega)
      have hB : 10000 * (((gs.map (oneT t)).take i).length : Int) ≤ 9000000 := by omega
      have Hcu := Lib.hid cu
      clear hg hgm hgo hgl hst hn hp hu
      have aq := box_cells Hxr.out
      have a0 := aq 0
      have a1 := aq 1
      have a2 := aq 2
      have a3 := aq 3
      have a4 := aq 4
      simp only [List.getElem?_toArray, List.getElem?_cons_zero, List.getElem?_cons_succ] at a0 a1 a2 a3 a4
      clear aq
      go_upto_region 6 with (fail)
      refine wp_region_noPanic ?_
      refine wp_region_pick [0, 1, 2, 3, 4, 5] [6, 7, 8] (fun _ => true) (fun w' => Below wr.heap.size wr w') (by kernel_rfl) (by kernel_rfl) (fun _ _ _ _ _ h => h) ((Below.refl _ _).drew) (fun hne => ?_)
      have n0 := fun x : Meets (fun w' => Below wr.heap.size wr w') => cell_below x.property a0
      have n1 := fun x : Meets (fun w' => Below wr.heap.size wr w') => cell_below x.property a1
      have n2 := fun x : Meets (fun w' => Below wr.heap.size wr w') => cell_below x.property a2
      have n3 := fun x : Meets (fun w' => Below wr.heap.size wr w') => cell_below x.property a3
      have n4 := fun x : Meets (fun w' => Below wr.heap.size wr w') => cell_below x.property a4
      have n5 := fun x : Meets (fun w' => Below wr.heap.size wr w') => cell_below x.property Hcu.out
      simp only [pick, pickN, List.filterMap_cons, List.filterMap_nil, List.getElem?_cons_zero, List.getElem?_cons_succ, Option.map_some]
      repeat (change wpQuiet _ _ _ _ (_ :: _) _; go_big_quiet_step (fail))
      refine wpQuiet_nil ?_
      clear n0 n1 n2 n3 n4 n5 hne a0 a1 a2 a3 a4
      refine wpSeqP_step (fun K hK => ?_)
      go_simp
      refine (hon.out _ ((Below.refl _ _).drew)).mono ?_
      rintro e w5 ⟨rfl, hb5⟩
      have hd5 : Below wr.heap.size wr w5 := ((Below.refl _ _).drew).trans (hb5.mono (Nat.le_refl _))
      have Hd5 := Lib.hid hd5
      have Hb5 := Lib.hid (Hbr.out.trans (hd5.mono Hbr.out.size))
      clear hb5 hd5
      refine hK.out _ _ (fun _ => Hd5.out) ?_
      clear hK K
      refine wpSeqP_step (fun K hK => ?_)
      go_simp
      refine hK.out _ _ (fun _ => Hd5.out) ?_
      clear hK K
      refine wpSeqP_step (fun K hK => ?_)
      go_simp
      refine hK.out _ _ (fun _ => Hd5.out) ?_
      clear hK K
      refine wpSeqP_nil ?_
      refine NoPanic.normal ?_
      go_wp2
      go_roundw
      case rel => exact ⟨i + 1, by omega, by rw [Hst.out], by go_num, Hb5.out⟩
      case measure => simp [intOf]; omega
    · have ii : ¬ (i : Int) < (M : Int) := by omega
      have hie : i = M := by omega
      have hall : sumI ((gs.map (oneT t)).take i) = E := by
        rw [← HE.out, List.take_of_length_le (by rw [List.length_map, HM.out]; omega)]
        unfold chargeR
        rfl
      rw [hall, hie]
      have ii2 : ¬ (M : Int) < (M : Int) := by omega
      go_wp2
      go_ret
      exact ⟨rfl, Hbw.out⟩
end Go.Proofs.Ytmbkpfkkohpnkaa
