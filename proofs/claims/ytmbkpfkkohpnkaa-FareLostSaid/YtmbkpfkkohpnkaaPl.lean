import Derived.Test.YtmbkpfkkohpnkaaLp
import Derived.Test.YtmbkpfkkohpnkaaMi
import Derived.Test.YtmbkpfkkohpnkaaSw
set_option linter.unusedVariables false
set_option linter.unusedSimpArgs false
namespace Go.Proofs.Ytmbkpfkkohpnkaa
open Go Go.Proofs Go.RowKit

/-! ### Lost taps, plain: a lost tap costs at most the dearest -/
theorem fold_infl {α : Type} (g : α → Int → Int) (hg : ∀ x m, m ≤ g x m) : ∀ (l : List α) (m : Int), m ≤ l.foldl (fun m x => g x m) m
  | [], m => Int.le_refl _
  | x :: l, m => Int.le_trans (hg x m) (fold_infl g hg l (g x m))
theorem fold_hit {α : Type} (g : α → Int → Int) (hg : ∀ x m, m ≤ g x m) {v : Int} {x : α} (hv : ∀ m, v ≤ g x m) : ∀ (l : List α) (m : Int), x ∈ l → v ≤ l.foldl (fun m x => g x m) m
  | [], m, h => by simp at h
  | y :: l, m, h => by
    rcases List.mem_cons.1 h with rfl | h
    · exact Int.le_trans (hv m) (fold_infl g hg l _)
    · exact fold_hit g hg hv l _ h
theorem fold_min {α : Type} (f : α → Int) : ∀ (l : List α) (m : Int), l.foldl (fun m p => min m (f p)) m = m ∨ ∃ p ∈ l, l.foldl (fun m p => min m (f p)) m = f p
  | [], m => .inl rfl
  | x :: l, m => by
    rw [List.foldl_cons]
    rcases fold_min f l (min m (f x)) with h | ⟨p, h1, h2⟩
    · rw [h]
      rcases Int.le_total m (f x) with h' | h'
      · exact .inl (Int.min_eq_left h')
      · exact .inr ⟨x, by simp, Int.min_eq_right h'⟩
    · exact .inr ⟨p, by simp [h1], h2⟩
theorem row_infl (t : Tar) (lo : Nat) (m : Int) : m ≤ deaRow t lo m := fold_infl (fun (k : Nat) m => max m (cheapT t lo ((lo + k : Nat) : Int))) (fun x m => Int.le_max_left _ _) _ m
theorem cheap_dear {t : Tar} {lo hi : Int} (h : 0 ≤ lo ∧ lo ≤ hi ∧ hi < t.zones) : cheapT t lo hi ≤ deaT t := by
  obtain ⟨a, rfl⟩ : ∃ a : Nat, lo = (a : Int) := ⟨lo.toNat, by omega⟩
  obtain ⟨k, hk⟩ : ∃ k : Nat, hi = ((a + k : Nat) : Int) := ⟨(hi - a).toNat, by omega⟩
  unfold deaT
  refine fold_hit (fun (lo : Nat) m => deaRow t lo m) (row_infl t) (x := a) (fun m => ?_) _ _ (List.mem_range.2 (by omega))
  rw [hk]
  exact fold_hit (fun (k : Nat) m => max m (cheapT t a ((a + k : Nat) : Int))) (fun x m => Int.le_max_left _ _) (x := k) (fun m => Int.le_max_right _ _) _ m (List.mem_range.2 (by omega))
theorem dear_nonneg (t : Tar) : 0 ≤ deaT t := fold_infl (fun (lo : Nat) m => deaRow t lo m) (row_infl t) _ 0
theorem cheap_tk {t : Tar} {r : Rd} (ht : tarB t = true) (hr : rideB t r = true) : ∃ y, tkB t y = true ∧ covB t y r = true ∧ priceT t y ≤ deaT t := by
  obtain ⟨d, m, z1, z2, z3⟩ := rideB_iff.1 hr
  have hd := cheap_dear (t := t) ⟨z1, z2, z3⟩
  have hz := tar_pos ht
  unfold cheapT at hd
  rcases fold_min (singleAt t) (widerL t r.low r.high) 10000 with h | ⟨p, hp, h⟩
  · rw [h] at hd
    exact ⟨singleT r, single_ok hr, single_cov ht r, Int.le_trans (price_bd ht _).2 hd⟩
  · rw [h] at hd
    obtain ⟨p1, p2, p3, p4⟩ := (mem_wider z1).1 hp
    refine ⟨⟨0, p.1, p.2, r.day, r.minute⟩, tkB_iff.2 (by simp; omega), covB_iff.2 (by simp; omega), ?_⟩
    have : priceT t ⟨0, p.1, p.2, r.day, r.minute⟩ = singleAt t p := by simp [priceT, kindL, singleAt]
    rw [this]
    exact hd
theorem one_more {t : Tar} {R S : List Rd} {r : Rd} {a b : Int} (ht : tarB t = true) (hr : rideB t r = true) (h1 : LeastT t R a) (h2 : LeastT t S b) (hs : ∀ q ∈ S, q ∈ R ∨ q = r) : b ≤ a + deaT t := by
  obtain ⟨y, y1, y2, y3⟩ := cheap_tk ht hr
  obtain ⟨⟨X, hX, rfl⟩, _⟩ := h1
  obtain ⟨x1, x2⟩ := areTk_iff.1 hX
  have h := h2.2 (X ++ [y]) (fun z hz => by
    rcases List.mem_append.1 hz with h | h
    · exact (x1 z h).1
    · rw [List.mem_singleton.1 h]; exact y1) (fun q hq => by
    rw [paidB_append]
    rcases hs q hq with h | rfl
    · rw [x2 q h]; rfl
    · have : paidB t [y] q = true := by simp [paidB, y2]
      rw [this]
      simp)
  rw [sumT_append] at h
  simp only [sumT] at h
  omega
theorem sum_one (f g : Nat → Int) (d : Int) (c0 : Nat) (hd : 0 ≤ d) : ∀ n : Nat, (∀ c, c < n → c ≠ c0 → f c ≤ g c) → (c0 < n → f c0 ≤ g c0 + d) → sumI ((List.range n).map f) ≤ sumI ((List.range n).map g) + (if c0 < n then d else 0)
  | 0, _, _ => by simp [sumI]
  | n + 1, h1, h2 => by
    rw [List.range_succ, List.map_append, List.map_append, sumI_append, sumI_append]
    have ih := sum_one f g d c0 hd n (fun c hc => h1 c (by omega)) (fun hc => h2 (by omega))
    simp only [List.map_cons, List.map_nil, sumI]
    by_cases e : n = c0
    · subst e
      have := h2 (by omega)
      rw [if_neg (by omega)] at ih
      rw [if_pos (by omega)]
      omega
    · have := h1 n (by omega) e
      by_cases hc : c0 < n
      · rw [if_pos hc] at ih
        rw [if_pos (by omega)]
        omega
      · rw [if_neg hc] at ih
        rw [if_neg (by omega)]
        omega
theorem total_eq (t : Tar) (T : List Tp) : totalLo t T = sumI ((List.range 10).map fun (c : Nat) => priceL t (ridesC T c)) := rfl
theorem dues_one {t : Tar} {T : List Tp} {x : Tp} (hx : rideB t x.ride = true) (h : ∀ c : Nat, c < 10 → ridesF t (ridesC (T ++ [x]) c) = 0) : totalLo t (T ++ [x]) ≤ totalLo t T + deaT t := by
  rw [total_eq, total_eq]
  have hd := dear_nonneg t
  have hs : ∀ c : Nat, c < 10 → ridesF t (ridesC T c) = 0 := fun c hc => ridesF_sub (h c hc) fun r hr => by
    obtain ⟨y, h1, h2⟩ := mem_ridesC.1 hr
    exact mem_ridesC.2 ⟨y, List.mem_append.2 (.inl h1), h2⟩
  have := sum_one (fun (c : Nat) => priceL t (ridesC (T ++ [x]) c)) (fun (c : Nat) => priceL t (ridesC T c)) (deaT t) x.card.toNat hd 10 (fun c hc hne => by
    rw [ridesC_snoc, if_neg (by omega)]
    exact Int.le_refl _) (fun hc => by
    by_cases e : x.card = ((x.card.toNat : Nat) : Int)
    · refine one_more (ridesF_all (h _ hc)).1 hx (price_least (hs _ hc)) (price_least (h _ hc)) fun q hq => ?_
      rw [ridesC_snoc, if_pos e] at hq
      rcases List.mem_append.1 hq with h | h
      · exact .inl h
      · exact .inr (List.mem_singleton.1 h)
    · rw [ridesC_snoc, if_neg e]
      omega)
  by_cases hc : x.card.toNat < 10
  · rw [if_pos hc] at this
    exact this
  · rw [if_neg hc] at this
    omega
theorem dues_many {t : Tar} : ∀ (L T : List Tp), (∀ x ∈ L, rideB t x.ride = true) → (∀ c : Nat, c < 10 → ridesF t (ridesC (T ++ L) c) = 0) → totalLo t (T ++ L) ≤ totalLo t T + (L.length : Int) * deaT t
  | [], T, _, _ => by simp
  | x :: L, T, hr, h => by
    have e : T ++ x :: L = (T ++ [x]) ++ L := by simp
    rw [e] at h ⊢
    have h1 := dues_many L (T ++ [x]) (fun y hy => hr y (by simp [hy])) h
    have h2 := dues_one (hr x (by simp)) (fun c hc => ridesF_sub (h c hc) fun r hr => by
      obtain ⟨y, k1, k2⟩ := mem_ridesC.1 hr
      exact mem_ridesC.2 ⟨y, List.mem_append.2 (.inl k1), k2⟩)
    rw [List.length_cons, Int.natCast_add, Int.add_mul]
    omega

/-! numbers given anew -/
structure Num (T : List Tp) (cs : List Int) : Prop where
  four : cs.length = 4
  inn : ∀ y ∈ T, 0 ≤ y.number ∧ y.number < cntAt cs y.machine
  pos : ∀ c ∈ cs, 0 ≤ c
theorem cnt_set {cs : List Int} {x m : Int} {v : Int} (h4 : cs.length = 4) (hx : 0 ≤ x ∧ x ≤ 3) (hm : 0 ≤ m) : cntAt (cs.set x.toNat v) m = if m = x then v else cntAt cs m := by
  unfold cntAt
  rw [List.getElem?_set]
  by_cases e : m = x
  · subst e
    rw [if_pos rfl, if_pos rfl, if_pos (by omega)]
    rfl
  · rw [if_neg (by omega), if_neg e]
theorem cnt_nonneg {cs : List Int} (h : ∀ c ∈ cs, 0 ≤ c) (m : Int) : 0 ≤ cntAt cs m := by
  unfold cntAt
  cases e : cs[m.toNat]? with
  | none => simp
  | some q => exact h q (List.mem_of_getElem? e)
theorem missK_congr {l l' : List Tp} {m : Int} {k : Nat} (h : ∀ i, i < k → hasB l m (i : Int) = hasB l' m (i : Int)) : missK l m k = missK l' m k := by
  unfold missK
  congr 1
  refine List.filter_congr fun i hi => ?_
  rw [h i (List.mem_range.1 hi)]
theorem hasB_snoc (T : List Tp) (x : Tp) (m n : Int) : hasB (T ++ [x]) m n = (hasB T m n || (decide (x.machine = m) && decide (x.number = n))) := by
  simp [hasB]
theorem lostN_four {T : List Tp} {cs : List Int} (h : cs.length = 4) : lostN T cs = (missK T 0 (cntAt cs 0).toNat).length + ((missK T 1 (cntAt cs 1).toNat).length + ((missK T 2 (cntAt cs 2).toNat).length + (missK T 3 (cntAt cs 3).toNat).length)) := by
  unfold lostN missLL
  rw [h]
  rfl
theorem miss_in {T : List Tp} {cs : List Int} {x : Tp} (h : Num T cs) (hx : 0 ≤ x.machine ∧ x.machine ≤ 3) (hn : x.number = cntAt cs x.machine) {m : Int} (hm : 0 ≤ m) : (missK (T ++ [x]) m (cntAt (cs.set x.machine.toNat (x.number + 1)) m).toNat).length = (missK T m (cntAt cs m).toNat).length := by
  have hp := cnt_nonneg h.pos x.machine
  rw [cnt_set h.four hx hm]
  by_cases e : m = x.machine
  · subst e
    rw [if_pos rfl, ← hn, show (x.number + 1).toNat = x.number.toNat + 1 by omega, missK_succ, hasB_snoc]
    rw [decide_eq_true rfl, decide_eq_true (show x.number = ((x.number.toNat : Nat) : Int) by omega)]
    simp only [Bool.and_self, Bool.or_true, if_true, List.append_nil]
    rw [missK_congr fun i hi => ?_]
    rw [hasB_snoc, decide_eq_false (show ¬ x.number = (i : Int) by omega)]
    simp
  · rw [if_neg e]
    rw [missK_congr fun i hi => ?_]
    rw [hasB_snoc, decide_eq_false (show ¬ x.machine = m from fun h => e h.symm)]
    simp
theorem miss_out {T : List Tp} {cs : List Int} {x : Tp} (h : Num T cs) (hx : 0 ≤ x.machine ∧ x.machine ≤ 3) (hn : x.number = cntAt cs x.machine) {m : Int} (hm : 0 ≤ m) : (missK T m (cntAt (cs.set x.machine.toNat (x.number + 1)) m).toNat).length = (missK T m (cntAt cs m).toNat).length + (if m = x.machine then 1 else 0) := by
  have hp := cnt_nonneg h.pos x.machine
  rw [cnt_set h.four hx hm]
  by_cases e : m = x.machine
  · subst e
    have hf : hasB T x.machine ((x.number.toNat : Nat) : Int) = false := by
      unfold hasB
      rw [List.any_eq_false]
      intro y hy hc
      simp only [Bool.and_eq_true, decide_eq_true_eq] at hc
      have := h.inn y hy
      rw [hc.1] at this
      omega
    rw [if_pos rfl, if_pos rfl, ← hn, show (x.number + 1).toNat = x.number.toNat + 1 by omega, missK_succ, hf]
    simp
  · rw [if_neg e, if_neg e]
    rfl
theorem num_set {T : List Tp} {cs : List Int} {x : Tp} (h : Num T cs) (hx : 0 ≤ x.machine ∧ x.machine ≤ 3) (hn : x.number = cntAt cs x.machine) (hT : ∀ y ∈ T, 0 ≤ y.machine) : Num T (cs.set x.machine.toNat (x.number + 1)) := by
  have hp := cnt_nonneg h.pos x.machine
  refine ⟨by rw [List.length_set]; exact h.four, fun y hy => ?_, fun c hc => ?_⟩
  · rw [cnt_set h.four hx (hT y hy)]
    have := h.inn y hy
    by_cases e : y.machine = x.machine
    · rw [if_pos e]
      rw [e] at this
      omega
    · rw [if_neg e]
      exact this
  · rcases List.mem_or_eq_of_mem_set hc with h1 | rfl
    · exact h.pos c h1
    · omega
theorem num_in {T : List Tp} {cs : List Int} {x : Tp} (h : Num T cs) (hx : 0 ≤ x.machine ∧ x.machine ≤ 3) (hn : x.number = cntAt cs x.machine) (hT : ∀ y ∈ T, 0 ≤ y.machine) : Num (T ++ [x]) (cs.set x.machine.toNat (x.number + 1)) := by
  have hp := cnt_nonneg h.pos x.machine
  have h' := num_set h hx hn hT
  refine ⟨h'.four, fun y hy => ?_, h'.pos⟩
  rcases List.mem_append.1 hy with h1 | h1
  · exact h'.inn y h1
  · rw [List.mem_singleton.1 h1, cnt_set h.four hx hx.1, if_pos rfl]
    omega
theorem lost_in {T : List Tp} {cs : List Int} {x : Tp} (h : Num T cs) (hx : 0 ≤ x.machine ∧ x.machine ≤ 3) (hn : x.number = cntAt cs x.machine) : lostN (T ++ [x]) (cs.set x.machine.toNat (x.number + 1)) = lostN T cs := by
  rw [lostN_four h.four, lostN_four (by rw [List.length_set]; exact h.four), miss_in h hx hn (by omega), miss_in h hx hn (by omega), miss_in h hx hn (by omega), miss_in h hx hn (by omega)]
theorem lost_out {T : List Tp} {cs : List Int} {x : Tp} (h : Num T cs) (hx : 0 ≤ x.machine ∧ x.machine ≤ 3) (hn : x.number = cntAt cs x.machine) : lostN T (cs.set x.machine.toNat (x.number + 1)) = lostN T cs + 1 := by
  rw [lostN_four h.four, lostN_four (by rw [List.length_set]; exact h.four), miss_out h hx hn (by omega), miss_out h hx hn (by omega), miss_out h hx hn (by omega), miss_out h hx hn (by omega)]
  have : x.machine = 0 ∨ x.machine = 1 ∨ x.machine = 2 ∨ x.machine = 3 := by omega
  rcases this with e | e | e | e <;> rw [e] <;> simp <;> omega
/-- The loop's state: all taps so far with their new numbers, the known ones, the lost ones, the counts. -/
structure Lost (k : Nat) (X K L : List Tp) (cs : List Int) : Prop where
  len : X.length = k
  klen : K.length ≤ k
  nx : Num X cs
  nk : Num K cs
  zero : lostN X cs = 0
  many : lostN K cs = L.length
  mem : ∀ y, y ∈ X ↔ y ∈ K ∨ y ∈ L
  cnt : ∀ c ∈ cs, 0 ≤ c ∧ c ≤ k
  mach : ∀ y ∈ X, 0 ≤ y.machine
theorem lost_start : Lost 0 [] [] [] [0, 0, 0, 0] :=
  ⟨rfl, Nat.zero_le _, ⟨rfl, by simp, by simp⟩, ⟨rfl, by simp, by simp⟩, by decide, by decide, by simp, by simp, by simp⟩
theorem cnt_set_bd {cs : List Int} {k i : Nat} {v : Int} (h : ∀ c ∈ cs, 0 ≤ c ∧ c ≤ (k : Int)) (hv : 0 ≤ v ∧ v ≤ (k : Int) + 1) : ∀ c ∈ cs.set i v, 0 ≤ c ∧ c ≤ ((k + 1 : Nat) : Int) := fun c hc => by
  rcases List.mem_or_eq_of_mem_set hc with h1 | rfl
  · have := h c h1; omega
  · omega
theorem cnt_le {cs : List Int} {k : Nat} (h : ∀ c ∈ cs, 0 ≤ c ∧ c ≤ (k : Int)) (m : Int) : 0 ≤ cntAt cs m ∧ cntAt cs m ≤ (k : Int) := by
  unfold cntAt
  cases e : cs[m.toNat]? with
  | none => simp
  | some q => exact h q (List.mem_of_getElem? e)
theorem Lost.known {k : Nat} {X K L : List Tp} {cs : List Int} {x : Tp} (h : Lost k X K L cs) (hx : 0 ≤ x.machine ∧ x.machine ≤ 3) (hn : x.number = cntAt cs x.machine) : Lost (k + 1) (X ++ [x]) (K ++ [x]) L (cs.set x.machine.toNat (x.number + 1)) := by
  have hb := cnt_le h.cnt x.machine
  have hK : ∀ y ∈ K, 0 ≤ y.machine := fun y hy => h.mach y ((h.mem y).2 (.inl hy))
  refine ⟨by simp [h.len], by have := h.klen; simp; omega, num_in h.nx hx hn h.mach, num_in h.nk hx hn hK, (lost_in h.nx hx hn).trans h.zero, (lost_in h.nk hx hn).trans h.many, fun y => ?_, cnt_set_bd h.cnt (by omega), fun y hy => ?_⟩
  · simp only [List.mem_append, h.mem y]
    constructor
    · rintro ((h | h) | h)
      · exact .inl (.inl h)
      · exact .inr h
      · exact .inl (.inr h)
    · rintro ((h | h) | h)
      · exact .inl (.inl h)
      · exact .inr h
      · exact .inl (.inr h)
  · rcases List.mem_append.1 hy with h1 | h1
    · exact h.mach y h1
    · rw [List.mem_singleton.1 h1]; exact hx.1
theorem Lost.lost {k : Nat} {X K L : List Tp} {cs : List Int} {x : Tp} (h : Lost k X K L cs) (hx : 0 ≤ x.machine ∧ x.machine ≤ 3) (hn : x.number = cntAt cs x.machine) : Lost (k + 1) (X ++ [x]) K (L ++ [x]) (cs.set x.machine.toNat (x.number + 1)) := by
  have hb := cnt_le h.cnt x.machine
  have hK : ∀ y ∈ K, 0 ≤ y.machine := fun y hy => h.mach y ((h.mem y).2 (.inl hy))
  refine ⟨by simp [h.len], by have := h.klen; omega, num_in h.nx hx hn h.mach, num_set h.nk hx hn hK, (lost_in h.nx hx hn).trans h.zero, by rw [lost_out h.nk hx hn, h.many]; simp, fun y => ?_, cnt_set_bd h.cnt (by omega), fun y hy => ?_⟩
  · simp only [List.mem_append, h.mem y, or_assoc]
  · rcases List.mem_append.1 hy with h1 | h1
    · exact h.mach y h1
    · rw [List.mem_singleton.1 h1]; exact hx.1
theorem ridesC_sub {K X : List Tp} (hs : ∀ y ∈ K, y ∈ X) {c : Int} : ∀ r ∈ ridesC K c, r ∈ ridesC X c := fun r hr => by
  obtain ⟨y, h1, h2⟩ := mem_ridesC.1 hr
  exact mem_ridesC.2 ⟨y, hs y h1, h2⟩
theorem taps_sub {t : Tar} {K X : List Tp} {cs : List Int} (h : TapsOk t X cs) (hs : ∀ y ∈ K, y ∈ X) (hk : K.length ≤ 40) : TapsOk t K cs :=
  ⟨h.tar, hk, h.four, h.cnt, fun x hx => h.taps x (hs x hx), h.apart.sub hs, fun c hc => Nat.le_trans (nodup_le (rising_nodup (onceL_rising _)) fun r hr => mem_onceL.2 (ridesC_sub hs r (mem_onceL.1 hr))) (h.cards c hc)⟩
theorem taps_rides {t : Tar} {X : List Tp} {cs : List Int} (h : TapsOk t X cs) {c : Nat} (hc : c < 10) : ridesF t (ridesC X c) = 0 := by
  refine ridesF_none h.tar (by have := h.cards c hc; omega) fun r hr => (h.rode hc).ride r (mem_onceL.2 hr)
theorem taps_ride {t : Tar} {X : List Tp} {cs : List Int} (h : TapsOk t X cs) {x : Tp} (hx : x ∈ X) : rideB t x.ride = true := by
  have := h.taps x hx
  unfold tapB at this
  simp only [Bool.and_eq_true] at this
  exact this.2.2.2
theorem total_mem {t : Tar} {X Y : List Tp} (hX : ∀ c : Nat, c < 10 → ridesF t (ridesC X c) = 0) (hY : ∀ c : Nat, c < 10 → ridesF t (ridesC Y c) = 0) (hs : ∀ y ∈ X, y ∈ Y) : totalLo t X ≤ totalLo t Y := by
  rw [total_eq, total_eq]
  have := sum_one (fun (c : Nat) => priceL t (ridesC X c)) (fun (c : Nat) => priceL t (ridesC Y c)) 0 10 (Int.le_refl _) 10 (fun c hc _ => least_mono (price_least (hX c hc)) (price_least (hY c hc)) (ridesC_sub hs)) (fun h => absurd h (by omega))
  simpa using this
theorem lost_final {t : Tar} {k : Nat} {X K L : List Tp} {cs : List Int} (h : Lost k X K L cs) (hX : TapsOk t X cs) :
    TapsOk t K cs ∧ totalHi t X cs = totalLo t X ∧ (∀ c : Nat, c < 10 → ∃ a b : Int, (duesL t X)[c]? = some a ∧ (duesL t K)[c]? = some b ∧ b ≤ a ∧ 0 ≤ b ∧ a ≤ 120000) ∧ totalLo t K ≤ totalLo t X ∧ totalLo t X ≤ totalHi t K cs := by
  have hs : ∀ y ∈ K, y ∈ X := fun y hy => (h.mem y).2 (.inl hy)
  have hK := taps_sub hX hs (Nat.le_trans h.klen (by have := hX.many; have := h.len; omega))
  have rX := fun (c : Nat) (hc : c < 10) => taps_rides hX hc
  have rK := fun (c : Nat) (hc : c < 10) => taps_rides hK hc
  refine ⟨hK, ?_, fun c hc => ⟨priceL t (ridesC X c), priceL t (ridesC K c), ?_, ?_, least_mono (price_least (rK c hc)) (price_least (rX c hc)) (ridesC_sub hs), (price_bd2 (rK c hc)).1, (price_bd2 (rX c hc)).2⟩, total_mem rK rX hs, ?_⟩
  · unfold totalHi
    rw [h.zero]
    simp
  · unfold duesL
    rw [List.getElem?_map, List.getElem?_range hc]
    rfl
  · unfold duesL
    rw [List.getElem?_map, List.getElem?_range hc]
    rfl
  · have hm : ∀ y, y ∈ K ++ L ↔ y ∈ X := fun y => by rw [List.mem_append]; exact (h.mem y).symm
    have rKL : ∀ c : Nat, c < 10 → ridesF t (ridesC (K ++ L) c) = 0 := fun c hc => ridesF_sub (rX c hc) (ridesC_sub fun y hy => (hm y).1 hy)
    have h1 := dues_many L K (fun x hx => taps_ride hX ((hm x).1 (List.mem_append.2 (.inr hx)))) rKL
    have h2 := total_mem rX rKL (fun y hy => (hm y).2 hy)
    unfold totalHi
    rw [h.many]
    omega
end Go.Proofs.Ytmbkpfkkohpnkaa
