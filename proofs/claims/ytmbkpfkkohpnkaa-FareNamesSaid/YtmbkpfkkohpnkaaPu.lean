import Derived.Test.YtmbkpfkkohpnkaaPw
set_option linter.unusedVariables false
set_option linter.unusedSimpArgs false
namespace Go.Proofs.Ytmbkpfkkohpnkaa
open Go Go.Proofs Go.RowKit

theorem wp_region_pickA {P : Program} {Q : Exit → Act → World → Prop} {id : Nat} {a : Act} {w : World} {ol : List Oper} (fs : List Nat) (m : Nat) (kp : Nat → Bool) (S : World → Prop) (hm : P.follows .mixedOrders = true)
    (hB : (Region.noSelect ol.toArray && (frontPickB .any ol.toArray kp fs (Array.replicate ol.toArray.size false) && decide (fs.length + m = ol.length))) = true)
    (hQ : ∀ c a d v w, Q (.panic c) (a.put d v) w → Q (.panic c) a w) (hS : S w.drew)
    (h : Nonempty (Meets S) → wpQuiet P ol.toArray (fun w' => ∃ x : Meets S, w' = x.val) (fun a' => wpAnyF P .any ol.toArray Q S kp m (listAll fs (Array.replicate ol.toArray.size false)) a' w.drew) (pick ol fs) a) :
    (Code.region id ol.toArray true).wp P Q a w := by
  simp only [Bool.and_eq_true, decide_eq_true_eq] at hB
  obtain ⟨h1, h2, h3⟩ := hB
  refine wp_region_front kp S hm ?_
  have hq' := h ⟨⟨w.drew, hS⟩⟩
  have := wpAnyF_pick (P := P) (ops := ol.toArray) (Q := Q) (md := .any) (S := S) (kp := kp) h1 hQ m fs (Array.replicate ol.toArray.size false) a w.drew h2 hS (by simpa using hq')
  rw [h3] at this
  simpa using this
theorem src_box {w : World} {g : Nat} {xs : List Value} {t : TypeId} {m size : Nat} (h : w.heap[g]? = some (.cells xs.toArray t (0, 0))) (hl : xs.length = m * size) : Src w (some ⟨g, 0, none⟩) m size xs := by
  refine ⟨hl, fun _ => ⟨_, rfl, fun j u hu => ?_⟩⟩
  rw [Addr.add_lit, box_cells h]
  simpa using hu
/-! ### The closure of charge: plain -/
theorem pay_le {t : Tar} {l : List Rd} (h : Rode t l) : ∀ (n : Nat) (now : List Bool), openN l now < n → (pay t l now).1 ≤ 10000 * (openN l now : Int)
  | 0, _, h1 => by omega
  | n + 1, now, h1 => by
    cases hr : l[first l now]? with
    | none => rw [pay_none hr]; simp; try omega
    | some r =>
      have hm := first_mem hr
      have hlt : ∀ x ∈ offersL t r, openN l (nextC t l x now) < openN l now := fun x hx => open_next h.len hr (offer_ok h.tar (h.ride r hm) hm hx).1
      have hpos : ∀ x ∈ offersL t r, 0 ≤ (billT t (fun x => pay t l (nextC t l x now)) x).1 := fun x hx => by
        have := (pay_ok h n (nextC t l x now) (by have := hlt x hx; omega)).1
        have := (price_bd h.tar x).1
        simp only [billT]
        omega
      obtain ⟨⟨x, hx, e⟩, _⟩ := foldP_best hpos (offers_ne h hm)
      have h2 := pay_le h n _ (by have := hlt x hx; omega : openN l (nextC t l x now) < n)
      have h3 := hlt x hx
      have h4 := (price_bd h.tar x).2
      rw [pay_some h hr, e]
      simp only [billT]
      omega
theorem pay_bd {t : Tar} {l : List Rd} (h : Rode t l) (now : List Bool) : 0 ≤ (pay t l now).1 ∧ (pay t l now).1 ≤ 120000 := by
  have h1 := (pay_ok h (openN l now + 1) now (by omega)).1
  have h2 := pay_le h (openN l now + 1) now (by omega)
  have h3 := openN_le l now
  have h4 := h.len
  omega
/-- How many tickets there are. -/
theorem pay_cnt {t : Tar} {l : List Rd} (h : Rode t l) : ∀ (n : Nat) (now : List Bool), openN l now < n → (pay t l now).2.length ≤ openN l now
  | 0, _, h1 => by omega
  | n + 1, now, h1 => by
    cases hr : l[first l now]? with
    | none => rw [pay_none hr]; simp; try omega
    | some r =>
      have hm := first_mem hr
      have hlt : ∀ x ∈ offersL t r, openN l (nextC t l x now) < openN l now := fun x hx => open_next h.len hr (offer_ok h.tar (h.ride r hm) hm hx).1
      have hpos : ∀ x ∈ offersL t r, 0 ≤ (billT t (fun x => pay t l (nextC t l x now)) x).1 := fun x hx => by
        have := (pay_ok h n (nextC t l x now) (by have := hlt x hx; omega)).1
        have := (price_bd h.tar x).1
        simp only [billT]
        omega
      obtain ⟨⟨x, hx, e⟩, _⟩ := foldP_best hpos (offers_ne h hm)
      have h2 := pay_cnt h n _ (by have := hlt x hx; omega : openN l (nextC t l x now) < n)
      have h3 := hlt x hx
      rw [pay_some h hr, e]
      simp only [billT, List.length_append, List.length_singleton]
      omega
theorem pay_few {t : Tar} {l : List Rd} (h : Rode t l) (now : List Bool) : (pay t l now).2.length ≤ 12 := by
  have h2 := pay_cnt h (openN l now + 1) now (by omega)
  have h3 := openN_le l now
  have h4 := h.len
  omega
/-- Covered, as far as ride i. -/
def covUp (t : Tar) (l : List Rd) (x : Tk) (now : List Bool) (i : Nat) : List Bool := (List.range 12).map fun j => isC now j || (decide (j < i) && (match l[j]? with | some r => covB t x r | none => false))
theorem covUp_len (t : Tar) (l : List Rd) (x : Tk) (now : List Bool) (i : Nat) : (covUp t l x now i).length = 12 := by simp [covUp]
theorem covUp_zero (t : Tar) (l : List Rd) (x : Tk) {now : List Bool} (h : now.length = 12) : covUp t l x now 0 = now := by
  obtain ⟨b0, b1, b2, b3, b4, b5, b6, b7, b8, b9, b10, b11, rfl⟩ := twelve h
  simp [covUp, List.range, List.range.loop, isC]
theorem covUp_all (t : Tar) {l : List Rd} (x : Tk) (now : List Bool) : covUp t l x now l.length = nextC t l x now := by
  unfold covUp nextC
  refine List.map_congr_left fun j _ => ?_
  by_cases hj : j < l.length
  · simp [hj]
  · rw [List.getElem?_eq_none (by omega)]
    simp
theorem isC_covUp {t : Tar} {l : List Rd} {x : Tk} {now : List Bool} {i j : Nat} (hj : j < 12) : isC (covUp t l x now i) j = (isC now j || (decide (j < i) && (match l[j]? with | some r => covB t x r | none => false))) := by
  unfold covUp
  rw [isC, List.getElem?_map, List.getElem?_range hj]
  rfl
theorem covUp_succ {t : Tar} {l : List Rd} {x : Tk} {now : List Bool} {i : Nat} {r : Rd} (hi : i < 12) (hr : l[i]? = some r) : covUp t l x now (i + 1) = (covUp t l x now i).set i (isC (covUp t l x now i) i || covB t x r) := by
  apply List.ext_getElem?
  intro j
  by_cases hj : j < 12
  · by_cases e : i = j
    · subst e
      rw [List.getElem?_set_self (by rw [covUp_len]; exact hj), isC_covUp hj]
      unfold covUp
      rw [List.getElem?_map, List.getElem?_range hj]
      simp [hr]
    · rw [List.getElem?_set_ne e]
      unfold covUp
      rw [List.getElem?_map, List.getElem?_map, List.getElem?_range hj]
      have h1 : (decide (j < i + 1)) = decide (j < i) := by
        rw [Bool.eq_iff_iff]
        simp
        omega
      simp [h1]
  · rw [List.getElem?_eq_none (by rw [covUp_len]; omega), List.getElem?_eq_none (by rw [List.length_set, covUp_len]; omega)]
theorem nowV_is {m : List Bool} (h : m.length = 12) : nowV m = .agg #[.bool (isC m 0), .bool (isC m 1), .bool (isC m 2), .bool (isC m 3), .bool (isC m 4), .bool (isC m 5), .bool (isC m 6), .bool (isC m 7), .bool (isC m 8), .bool (isC m 9), .bool (isC m 10), .bool (isC m 11)] := by
  obtain ⟨b0, b1, b2, b3, b4, b5, b6, b7, b8, b9, b10, b11, rfl⟩ := twelve h
  rfl
theorem now_cell {w : World} {B : Nat} {m : List Bool} (h : w.heap[B]? = some (.cells (m.map .bool).toArray 130 (0, 0))) (hl : m.length = 12) {i : Nat} (hi : i < 12) : w.cell? ⟨B, i, none⟩ = some (.bool (isC m i)) := by
  rw [box_cells h, List.getElem?_toArray, List.getElem?_map, isC, List.getElem?_eq_getElem (by omega)]
  rfl
theorem now_set {w : World} {B : Nat} {m : List Bool} (h : w.heap[B]? = some (.cells (m.map .bool).toArray 130 (0, 0))) (i : Nat) (b : Bool) : (w.setCell ⟨B, i, none⟩ (.bool b)).heap[B]? = some (.cells ((m.set i b).map .bool).toArray 130 (0, 0)) := by
  rw [blk_set h]
  simp [List.map_set]
theorem offers_le {t : Tar} {r : Rd} (ht : tarB t = true) (hr : rideB t r = true) : (offersL t r).length ≤ 48 := by
  obtain ⟨_, _, z1, z2, z3⟩ := rideB_iff.1 hr
  have hz := tar_pos ht
  have e : (offersL t r).length = (widerL t r.low r.high).length * 3 := flat_len3 r _
  rw [e, wider_len]
  have h1 : (r.low + 1).toNat ≤ 4 := by omega
  have h2 : (t.zones - r.high).toNat ≤ 4 := by omega
  have := Nat.mul_le_mul h1 h2
  omega
end Go.Proofs.Ytmbkpfkkohpnkaa
