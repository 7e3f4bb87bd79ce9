import Derived.Test.YtmbkpfkkohpnkaaLp
set_option linter.unusedVariables false
set_option linter.unusedSimpArgs false
namespace Go.Proofs.Ytmbkpfkkohpnkaa
open Go Go.Proofs Go.RowKit

/-! ### The reference: taps -/
theorem tapR_fields : (Try.prog.fieldsOf 75).toList.map (fun f => (f.name, f.type, f.offset)) = [("Machine", 3, 0), ("Number", 3, 1), ("Card", 3, 2), ("Ride", 68, 3)] := by kernel_rfl
theorem tapR_under : Try.prog.underlying 75 = some (.struct (Try.prog.fieldsOf 75)) := by kernel_rfl
theorem tapR_held : Try.prog.stoodInHeld 75 = false := by kernel_rfl
theorem tapR_guardN (w : World) (x y : Operand) (xs ys : Array Value) : (eqGuard .neq 75 x y (.agg xs) (.agg ys)).run Try.prog w = .ok () w := run_eqGuard_agg w _ _ _ _ _ _ (by kernel_rfl)
theorem rideR_equal_at (w : World) (r s : Rd) (d : Nat) : (Op.equalIn (d + 2) 68 (.agg #[.int .i64 r.day, .int .i64 r.minute, .int .i64 r.low, .int .i64 r.high]) (.agg #[.int .i64 s.day, .int .i64 s.minute, .int .i64 s.low, .int .i64 s.high])).run Try.prog w = .ok (decide (r = s)) w := by
  rw [run_equalIn_agg w (d + 1) _ _ _ rideR_under rideR_held]
  have hf := rideR_fields
  match h : (Try.prog.fieldsOf 68).toList with
  | [f, g, k, m] =>
    rw [h] at hf
    simp only [List.map_cons, List.map_nil, List.cons.injEq, Prod.mk.injEq, and_true] at hf
    obtain ⟨⟨n1, t1, o1⟩, ⟨n2, t2, o2⟩, ⟨n3, t3, o3⟩, n4, t4, o4⟩ := hf
    simp only [Op.eqFields, n1, n2, n3, n4, t1, t2, t3, t4, o1, o2, o3, o4]
    have e : decide (r = s) = (decide (r.day = s.day) && (decide (r.minute = s.minute) && (decide (r.low = s.low) && decide (r.high = s.high)))) := by
      cases r
      cases s
      simp
    rw [e]
    simp [go_sem]
    by_cases h1 : r.day = s.day
    · by_cases h2 : r.minute = s.minute
      · by_cases h3 : r.low = s.low
        · by_cases h4 : r.high = s.high
          · simp [h1, h2, h3, h4]
          · simp [h1, h2, h3, h4]
        · simp [h1, h2, h3]
      · simp [h1, h2]
    · simp [h1]
  | [] => rw [h] at hf; simp at hf
  | [f] => rw [h] at hf; simp at hf
  | [f, g] => rw [h] at hf; simp at hf
  | [f, g, k] => rw [h] at hf; simp at hf
  | f :: g :: k :: m :: n :: r => rw [h] at hf; simp at hf
theorem tapR_equal (w : World) (x y : Tp) : (Op.equal 75 (.agg #[.int .i64 x.machine, .int .i64 x.number, .int .i64 x.card, .int .i64 x.ride.day, .int .i64 x.ride.minute, .int .i64 x.ride.low, .int .i64 x.ride.high]) (.agg #[.int .i64 y.machine, .int .i64 y.number, .int .i64 y.card, .int .i64 y.ride.day, .int .i64 y.ride.minute, .int .i64 y.ride.low, .int .i64 y.ride.high])).run Try.prog w = .ok (decide (x = y)) w := by
  unfold Op.equal Op.maxDepth
  rw [run_equalIn_agg w 9999 _ _ _ tapR_under tapR_held]
  have hf := tapR_fields
  match h : (Try.prog.fieldsOf 75).toList with
  | [f, g, k, m] =>
    rw [h] at hf
    simp only [List.map_cons, List.map_nil, List.cons.injEq, Prod.mk.injEq, and_true] at hf
    obtain ⟨⟨n1, t1, o1⟩, ⟨n2, t2, o2⟩, ⟨n3, t3, o3⟩, n4, t4, o4⟩ := hf
    simp only [Op.eqFields, n1, n2, n3, n4, t1, t2, t3, t4, o1, o2, o3, o4]
    have e : decide (x = y) = (decide (x.machine = y.machine) && (decide (x.number = y.number) && (decide (x.card = y.card) && decide (x.ride = y.ride)))) := by
      cases x
      cases y
      simp
    rw [e]
    have hr := rideR_equal_at w x.ride y.ride 9997
    simp [go_sem, hr]
    by_cases h1 : x.machine = y.machine
    · by_cases h2 : x.number = y.number
      · by_cases h3 : x.card = y.card
        · by_cases h4 : x.ride = y.ride
          · simp [h1, h2, h3, h4]
          · simp [h1, h2, h3, h4]
            intro a1 a2 a3 a4
            exact h4 (rd_ext a1 a2 a3 a4)
        · simp [h1, h2, h3]
      · simp [h1, h2]
    · simp [h1]
  | [] => rw [h] at hf; simp at hf
  | [f] => rw [h] at hf; simp at hf
  | [f, g] => rw [h] at hf; simp at hf
  | [f, g, k] => rw [h] at hf; simp at hf
  | f :: g :: k :: m :: n :: r => rw [h] at hf; simp at hf
theorem tapR_neq (w : World) (r s : Tp) : (binOp .neq 75 (.agg #[.int .i64 r.machine, .int .i64 r.number, .int .i64 r.card, .int .i64 r.ride.day, .int .i64 r.ride.minute, .int .i64 r.ride.low, .int .i64 r.ride.high]) (.agg #[.int .i64 s.machine, .int .i64 s.number, .int .i64 s.card, .int .i64 s.ride.day, .int .i64 s.ride.minute, .int .i64 s.ride.low, .int .i64 s.ride.high])).run Try.prog w = .ok (.bool (!decide (r = s))) w := by
  simp only [binOp, Sem.run_bind, tapR_equal, Result.andThen_ok, Sem.run_pure]
theorem ridesC_take {l : List Tp} {k : Nat} {x : Tp} {c : Int} (h : l[k]? = some x) : ridesC (l.take (k + 1)) c = if x.card = c then ridesC (l.take k) c ++ [x.ride] else ridesC (l.take k) c := by
  rw [List.take_add_one, h]
  exact ridesC_snoc _ _ _
set_option maxRecDepth 100000 in
set_option maxHeartbeats 2000000 in
theorem Rides_ref (v : Value) (l : List Tp) (c : Int) (w : World) (hv : TpsAt w v l) (hl : l.length ≤ 1000000) : Calls Try.prog 34 #[v, .int .i64 c] w (GivesRds w (uniqL (ridesC l c))) := by
  obtain ⟨Av, cv, rfl, _, _⟩ := hv.form
  obtain ⟨i0, hi0, hz0, hz1, hz2⟩ := info_parts info_rdsR
  obtain ⟨N, hN⟩ : ∃ N, l.length = N := ⟨_, rfl⟩
  rw [hN] at hv hl ⊢
  have HN := Lib.hid hN
  have Hv := Lib.hid hv
  have ho0 : w.ownsRow w.heap.size 68 4 (.slice none 0 0) 0 ([] : List Value) := World.ownsRow_nil _ _ _ _
  clear hv hN
  go_enter Try.func34, Try.ntmps34
  go_wp2
  go_loopw [5, 6] (fun o s wr => ∃ (k : Nat) (A : Option Addr) (q n : Nat), k ≤ N ∧ n = (ridesC (l.take k) c).length ∧ o = .slice A n q ∧ s = .int .i64 k ∧ Below w.heap.size w wr ∧ wr.ownsRow w.heap.size 68 4 (.slice A n q) n ((ridesC (l.take k) c).flatMap rdC)) (fun o s wr => N - (intOf s).toNat)
  case atStart => exact ⟨0, none, 0, 0, by omega, rfl, rfl, rfl, Below.refl _ _, ho0⟩
  case round =>
    obtain ⟨k, A, q, n, hk, hn, rfl, rfl, hbr, hor⟩ := hrel
    have Hbr := Lib.hid hbr
    have Hor := Lib.hid hor
    have Hn := Lib.hid hn
    have hnl : n ≤ 1000000 := by
      rw [hn]
      have h1 := ridesC_len (l.take k) c
      have h2 : (l.take k).length ≤ l.length := by rw [List.length_take]; omega
      have := HN.out
      omega
    clear hbr hor hn ho0
    by_cases hlt : k < N
    · obtain ⟨bb, oo, x, rfl, hx, d0, d1, d2, d3, d4, d5, d6, _⟩ := (Hv.out.below Hbr.out).at_ (n := N) (k := k) (by have := HN.out; omega)
      have ik : (k : Int) < (N : Int) := by omega
      have htk := ridesC_take (c := c) hx
      have Htk := Lib.hid htk
      clear hx htk
      by_cases hc : x.card = c
      · have ec : (x.card == c) = true := by simp [hc]
        rw [if_pos hc] at Htk
        clear hc
        go_wp2_with (at_builtin; refine wpList_append_src _ rfl (.tmp 20) (.tmp 26) 25 rfl w.heap.size 68 i0 _ 4 32 Try.underlying25 hi0 hz0 hz1 hz2 rfl (by omega) _ n _ rfl (Hor.out.alloc _) (some ⟨wr.heap.size, 0, none⟩) 1 1 (rdC x.ride) rfl (src_new wr (rdC x.ride) 68 1 4 rfl) (by simp [rdC, Value.oneCell']) (by unfold maxLen; omega) (by omega) (Nat.le_trans Hbr.out.size (by simp)) ?_; intro v6 w6 hown6 hg6 hat6)
        have hb6 : Below w.heap.size w w6 := below_grown (Hbr.out.alloc Hbr.out.size _) hg6 (Nat.le_trans Hbr.out.size (by simp)) (Hor.out.alloc _) (Nat.le_refl _)
        obtain ⟨A6, c6, rfl⟩ := own_form hown6
        have Hb6 := Lib.hid hb6
        have Ho6 := Lib.hid hown6
        clear hown6 hg6 hat6 hb6 d0 d1 d2 d3 d4 d5 d6
        go_roundw
        case rel =>
          refine ⟨k + 1, A6, c6, n + 1, by omega, by rw [Htk.out, List.length_append, ← Hn.out]; rfl, rfl, by go_num, Hb6.out, ?_⟩
          rw [Htk.out, List.flatMap_append]
          simpa using Ho6.out
        case measure => simp [intOf]; omega
      · have ec : (x.card == c) = false := by simpa using hc
        rw [if_neg hc] at Htk
        clear hc
        go_wp2
        go_roundw
        case rel => exact ⟨k + 1, A, q, n, by omega, by rw [Htk.out]; exact Hn.out, rfl, by go_num, Hbr.out, by rw [Htk.out]; exact Hor.out⟩
        case measure => simp [intOf]; omega
    · have hie : l.take k = l := List.take_of_length_le (by have := HN.out; omega)
      have ik : ¬ (k : Int) < (N : Int) := by omega
      have hor := Hor.out
      have hn := Hn.out
      rw [hie] at hor hn
      rw [hn] at hor
      have hry := rds_own hor
      rw [← hn] at hry
      have Hry := Lib.hid hry
      have Hny := Lib.hid hn
      clear hor hn hry hie
      go_wp2_with fail
      refine (Once_ref _ (ridesC l c) wr Hry.out (by have := Hny.out; omega)).mono ?_
      rintro e w9 ⟨A9, c9, rfl, hr9, hb9⟩
      have hb := Hbr.out.trans (hb9.mono Hbr.out.size)
      obtain ⟨ys, hys⟩ : ∃ ys, uniqL (ridesC l c) = ys := ⟨_, rfl⟩
      rw [hys] at hr9 ⊢
      go_wp2
      go_ret
      subst hys
      exact ⟨A9, c9, rfl, hr9, hb⟩
theorem tapsF_long {t : Tar} {l : List Tp} {cs : List Int} (ht : tarB t = true) (h : 40 < l.length) : tapsF t l cs = 3 := by unfold tapsF; rw [if_pos ht, if_pos h]
theorem tapsF_cnt {t : Tar} {l : List Tp} {cs : List Int} (ht : tarB t = true) (h : ¬ 40 < l.length) (hc : countsB cs = false) : tapsF t l cs = 1 := by unfold tapsF; rw [if_pos ht, if_neg h, if_neg (by rw [hc]; decide)]
theorem tapsF_bad {t : Tar} {l : List Tp} {cs : List Int} {x : Tp} (ht : tarB t = true) (h : ¬ 40 < l.length) (hc : countsB cs = true) (hx : x ∈ l) (hb : tapB t cs x = false) : tapsF t l cs = 2 := by
  unfold tapsF
  rw [if_pos ht, if_neg h, if_pos hc, if_neg]
  intro h2
  have := List.all_eq_true.1 h2 x hx
  rw [hb] at this
  cases this
theorem tapsF_two {t : Tar} {l : List Tp} {cs : List Int} {x y : Tp} (ht : tarB t = true) (h : ¬ 40 < l.length) (hc : countsB cs = true) (ha : ∀ x ∈ l, tapB t cs x = true) (hx : x ∈ l) (hy : y ∈ l) (h1 : x.machine = y.machine) (h2 : x.number = y.number) (h3 : x ≠ y) : tapsF t l cs = 6 := by
  unfold tapsF
  rw [if_pos ht, if_neg h, if_pos hc, if_pos (List.all_eq_true.2 ha), if_pos]
  unfold twiceB
  exact List.any_eq_true.2 ⟨x, hx, List.any_eq_true.2 ⟨y, hy, by simp [clashB, h1, h2, h3]⟩⟩
theorem tapsF_many {t : Tar} {l : List Tp} {cs : List Int} {c : Nat} (ht : tarB t = true) (h : ¬ 40 < l.length) (hc : countsB cs = true) (ha : ∀ x ∈ l, tapB t cs x = true) (hn : NoClash l) (hk : c < 10) (h12 : 12 < (onceL (ridesC l c)).length) : tapsF t l cs = 3 := by
  unfold tapsF
  rw [if_pos ht, if_neg h, if_pos hc, if_pos (List.all_eq_true.2 ha), if_neg (by rw [twiceB_false.2 hn]; decide), if_pos]
  unfold cardsB
  exact List.any_eq_true.2 ⟨c, List.mem_range.2 hk, decide_eq_true h12⟩
theorem tapB_false {t : Tar} {cs : List Int} {x : Tp} (h : ¬ (inB x.machine 0 3 = true ∧ inB x.card 0 9 = true ∧ rideB t x.ride = true ∧ inB x.number 0 (cntAt cs x.machine - 1) = true)) : tapB t cs x = false := by
  unfold tapB
  cases h1 : inB x.machine 0 3 <;> cases h2 : inB x.card 0 9 <;> cases h3 : rideB t x.ride <;> cases h4 : inB x.number 0 (cntAt cs x.machine - 1) <;> simp_all
set_option maxRecDepth 100000 in
set_option maxHeartbeats 4000000 in
theorem TapsFault_ref (t : Tar) (a b c v z : Value) (l : List Tp) (cs : List Int) (w : World) (ht : tarB t = true) (hv : TpsAt w v l) (hc : NumsAt .i64 w z cs) (hl : l.length ≤ 1000000) : Calls Try.prog 60 #[.agg #[.int .i64 t.zones, a, b, c, .int .i64 t.window], v, z] w (Gives w (.int .i64 (tapsF t l cs))) := by
  obtain ⟨Av, cv, rfl, _, _⟩ := hv.form
  obtain ⟨Az, cz, rfl, _, _⟩ := hc.form
  obtain ⟨N, hN⟩ : ∃ N, l.length = N := ⟨_, rfl⟩
  obtain ⟨M, hM⟩ : ∃ M, cs.length = M := ⟨_, rfl⟩
  rw [hN] at hv hl ⊢
  rw [hM] at hc ⊢
  have hb0 : Below w.heap.size w (w.alloc (.cells #[.int .i64 t.zones, a, b, c, .int .i64 t.window] 24)) := (Below.refl _ _).alloc (Nat.le_refl _) _
  have hx0 : (w.alloc (.cells #[.int .i64 t.zones, a, b, c, .int .i64 t.window] 24)).heap[w.heap.size]? = some (.cells #[.int .i64 t.zones, a, b, c, .int .i64 t.window] 24 (0, 0)) := heap_alloc_new w _
  have HN := Lib.hid hN
  have HM := Lib.hid hM
  have Hv := Lib.hid hv
  have Hc := Lib.hid hc
  have Ht := Lib.hid ht
  have HX0 := Lib.hid hx0
  have HB0 := Lib.hid hb0
  obtain ⟨F, hF⟩ : ∃ F, tapsF t l cs = F := ⟨_, rfl⟩
  rw [hF]
  have HF := Lib.hid hF
  clear hv hc ht hx0 hb0 hN hM hF
  have fin : ∀ (q : Int) (W : World), tapsF t l cs = q → Below w.heap.size w W → Gives w (.int .i64 F) (.returned (.int .i64 q)) W := fun q W h hb => ⟨by rw [← HF.out, h], hb⟩
  have Fin := Lib.hid fin
  clear fin
  go_enter Try.func60, Try.ntmps60
  by_cases h40 : 40 < N
  · have i40 : (40 : Int) < (N : Int) := by omega
    have hf := Lib.hid (tapsF_long (cs := cs) Ht.out (by rw [HN.out]; exact h40))
    clear h40
    go_wp2
    go_ret
    exact Fin.out _ _ hf.out HB0.out
  have i40 : ¬ (40 : Int) < (N : Int) := by omega
  have Hn40 := Lib.hid (show ¬ 40 < l.length by rw [HN.out]; exact h40)
  have hN40 : N ≤ 40 := by omega
  clear h40
  by_cases h4 : M = 4
  rotate_left
  · have i4 : ((M : Int) != 4) = true := by simp; omega
    have hcb : countsB cs = false := by
      cases h : countsB cs with
      | false => rfl
      | true => exact absurd ((HM.out).symm.trans (countsB_iff.1 h).1) h4
    have hf := Lib.hid (tapsF_cnt (l := l) Ht.out Hn40.out hcb)
    clear h4 hcb
    go_wp2
    go_ret
    exact Fin.out _ _ hf.out HB0.out
  have i4 : ((M : Int) != 4) = false := by simp; omega
  have H4 := Lib.hid h4
  have hM4 : M ≤ 4 ∧ 4 ≤ M := by omega
  clear h4
  go_upto_region 5 with (fail)
  refine wp_name (fun V => Below w.heap.size w V ∧ V.heap[w.heap.size]? = some (.cells #[.int .i64 t.zones, a, b, c, .int .i64 t.window] 24 (0, 0))) ⟨HB0.out, HX0.out⟩ (fun V hV => ?_)
  obtain ⟨hbV, hxV⟩ := hV
  have HBV := Lib.hid hbV
  have HXV := Lib.hid hxV
  clear hbV hxV HB0 HX0
  go_wp2
  go_loop [7] (fun s => ∃ k : Nat, k ≤ 4 ∧ s = .int .i64 k ∧ ∀ (j : Nat) (x : Int), j < k → cs[j]? = some x → inB x 0 50 = true) (fun s => 4 - (intOf s).toNat)
  case atStart => exact ⟨0, by omega, rfl, by intro j x h; omega⟩
  case round =>
    obtain ⟨k, hk, rfl, hall⟩ := hrel
    have Hall := Lib.hid hall
    clear hall
    by_cases hlt : k < 4
    · obtain ⟨bz, oz, x, rfl, hx, dx, _⟩ := (Hc.out.below HBV.out).at_ (n := M) (k := k) (by have := HM.out; omega)
      have ik : (k : Int) < 4 := by omega
      have ikM : (k : Int) < (M : Int) := by omega
      cases hin : inB x 0 50 with
      | false =>
        have hcb : countsB cs = false := by
          cases h : countsB cs with
          | false => rfl
          | true =>
            have := (countsB_iff.1 h).2 x (List.mem_of_getElem? hx)
            rw [inB_iff.2 this] at hin
            cases hin
        have hf := Lib.hid (tapsF_cnt (l := l) Ht.out Hn40.out hcb)
        have Hin := Lib.hid hin
        clear hin hx hcb
        go_wp2_with (go_at_call 41; refine (Same.to Hin.out (In_same _ _ _ _)).mono ?_; rintro e w2 ⟨rfl, rfl⟩)
        go_ret
        exact Fin.out _ _ hf.out HBV.out
      | true =>
        have Hx := Lib.hid hx
        have Hin := Lib.hid hin
        clear hin hx
        go_wp2_with (go_at_call 41; refine (Same.to Hin.out (In_same _ _ _ _)).mono ?_; rintro e w2 ⟨rfl, rfl⟩)
        go_round
        case rel =>
          refine ⟨k + 1, by omega, by go_num, fun j y hj hy => ?_⟩
          by_cases e : j = k
          · subst e
            rw [Hx.out] at hy
            cases hy
            exact Hin.out
          · exact Hall.out j y (by omega) hy
        case measure => simp [intOf]; omega
    · have ik : ¬ (k : Int) < 4 := by omega
      have hcs : ∀ x ∈ cs, 0 ≤ x ∧ x ≤ 50 := fun x hx => by
        obtain ⟨i, hi⟩ := List.getElem?_of_mem hx
        exact inB_iff.1 (Hall.out i x (by have := (List.getElem?_eq_some_iff.1 hi).1; have := HM.out; omega) hi)
      have hcb : countsB cs = true := countsB_iff.2 ⟨HM.out.trans H4.out, hcs⟩
      have Hcs := Lib.hid hcs
      have Hcb := Lib.hid hcb
      clear hcs hcb Hall
      go_wp2
      go_loopw [8] (fun s wr => ∃ k : Nat, k ≤ N ∧ s = .int .i64 k ∧ Below V.heap.size V wr ∧ ∀ (j : Nat) (x : Tp), j < k → l[j]? = some x → tapB t cs x = true) (fun s wr => N - (intOf s).toNat)
      case atStart => exact ⟨0, by omega, rfl, Below.refl _ _, by intro j x h; omega⟩
      case round =>
        obtain ⟨k, hk, rfl, hbr, hall⟩ := hrel
        have Hall := Lib.hid hall
        have Hbr := Lib.hid hbr
        clear hall hbr
        by_cases hlt : k < N
        · obtain ⟨bb, oo, x, rfl, hx, d0, d1, d2, d3, d4, d5, d6, _⟩ := ((Hv.out.below HBV.out).below Hbr.out).at_ (n := N) (k := k) (by have := HN.out; omega)
          have ik : (k : Int) < (N : Int) := by omega
          have Hx := Lib.hid hx
          clear hx
          go_upto_region 14 with (fail)
          refine wp_name (fun V2 => Below wr.heap.size wr V2 ∧ V2.heap[wr.heap.size]? = some (.cells #[.int .i64 x.machine, .int .i64 x.number, .int .i64 x.card, .int .i64 x.ride.day, .int .i64 x.ride.minute, .int .i64 x.ride.low, .int .i64 x.ride.high] 75 (0, 0))) ⟨(Below.refl _ _).alloc (Nat.le_refl _) _, heap_alloc_new wr _⟩ (fun V2 hV2 => ?_)
          obtain ⟨hb2, hx2⟩ := hV2
          have HB2 := Lib.hid (Hbr.out.trans (hb2.mono Hbr.out.size))
          have HX2 := Lib.hid ((HB2.out.block _ (Array.getElem?_eq_some_iff.1 HXV.out).1).trans HXV.out)
          have HP2 := Lib.hid hx2
          clear d0 d1 d2 d3 d4 d5 d6 hb2 hx2
          obtain ⟨PB, hPB⟩ : ∃ PB, wr.heap.size = PB := ⟨_, rfl⟩
          rw [hPB] at HP2 ⊢
          clear hPB
          have pq := box_cells HP2.out
          have p0 := pq 0
          have p1 := pq 1
          have p2 := pq 2
          have p3 := pq 3
          have p4 := pq 4
          have p5 := pq 5
          have p6 := pq 6
          simp only [List.getElem?_toArray, List.getElem?_cons_zero, List.getElem?_cons_succ] at p0 p1 p2 p3 p4 p5 p6
          clear pq
          have aq := box_cells HX2.out
          have a0 := aq 0
          have a1 := aq 1
          have a2 := aq 2
          have a3 := aq 3
          have a4 := aq 4
          simp only [List.getElem?_toArray, List.getElem?_cons_zero, List.getElem?_cons_succ] at a0 a1 a2 a3 a4
          clear aq
          cases h1 : inB x.machine 0 3 with
          | false =>
            have hf := Lib.hid (tapsF_bad Ht.out Hn40.out Hcb.out (List.mem_of_getElem? Hx.out) (tapB_false fun h => by rw [h1] at h; exact absurd h.1 (by decide)))
            have H1 := Lib.hid h1
            clear h1
            go_wp2_with fail
            refine (Same.to H1.out (In_same x.machine 0 3 _)).mono ?_
            rintro e w3 ⟨rfl, rfl⟩
            go_wp2
            go_ret
            exact Fin.out _ _ hf.out (HBV.out.trans (HB2.out.mono HBV.out.size))
          | true =>
            have H1 := Lib.hid h1
            clear h1
            cases h2 : inB x.card 0 9 with
            | false =>
              have hf := Lib.hid (tapsF_bad Ht.out Hn40.out Hcb.out (List.mem_of_getElem? Hx.out) (tapB_false fun h => by rw [h2] at h; exact absurd h.2.1 (by decide)))
              have H2 := Lib.hid h2
              clear h2
              go_wp2_with fail
              refine (Same.to H1.out (In_same x.machine 0 3 _)).mono ?_
              rintro e w3 ⟨rfl, rfl⟩
              go_wp2_with fail
              refine (Same.to H2.out (In_same x.card 0 9 _)).mono ?_
              rintro e w3 ⟨rfl, rfl⟩
              go_wp2
              go_ret
              exact Fin.out _ _ hf.out (HBV.out.trans (HB2.out.mono HBV.out.size))
            | true =>
              have H2 := Lib.hid h2
              clear h2
              go_wp2_with fail
              refine (Same.to H1.out (In_same x.machine 0 3 _)).mono ?_
              rintro e w3 ⟨rfl, rfl⟩
              go_wp2_with fail
              refine (Same.to H2.out (In_same x.card 0 9 _)).mono ?_
              rintro e w3 ⟨rfl, rfl⟩
              go_wp2_with fail
              refine (IsRide_ref t a b c x.ride _).mono ?_
              rintro e w4 ⟨rfl, hb4⟩
              have HB4 := Lib.hid (HB2.out.trans (hb4.mono HB2.out.size))
              have HP4 := Lib.hid ((hb4.block _ (Array.getElem?_eq_some_iff.1 HP2.out).1).trans HP2.out)
              clear p0 p1 p2 p3 p4 p5 p6 a0 a1 a2 a3 a4 hb4
              cases h3 : rideB t x.ride with
              | false =>
                have hf := Lib.hid (tapsF_bad Ht.out Hn40.out Hcb.out (List.mem_of_getElem? Hx.out) (tapB_false fun h => by rw [h3] at h; exact absurd h.2.2.1 (by decide)))
                clear h3
                go_wp2
                go_ret
                exact Fin.out _ _ hf.out (HBV.out.trans (HB4.out.mono HBV.out.size))
              | true =>
                have H3 := Lib.hid h3
                clear h3
                have hm := inB_iff.1 H1.out
                obtain ⟨bz, oz, y, eA, hy, dy, _⟩ := ((Hc.out.below HBV.out).below HB4.out).at_ (n := M) (k := x.machine.toNat) (by have := HM.out; omega)
                subst eA
                have hcy : cntAt cs x.machine = y := by unfold cntAt; rw [hy]; rfl
                have hyb := Hcs.out y (List.mem_of_getElem? hy)
                have q1 : IntKind.i64.wrap (y - 1) = y - 1 := IntWalk.i64_in _ (by omega)
                obtain ⟨mm, hmm⟩ : ∃ mm : Nat, x.machine = (mm : Int) := ⟨x.machine.toNat, by omega⟩
                have hmt : x.machine.toNat = mm := by omega
                rw [hmt] at dy
                have imM : (mm : Int) < (M : Int) := by omega
                have pq := box_cells HP4.out
                have p0 := pq 0
                have p1 := pq 1
                have p2 := pq 2
                have p3 := pq 3
                have p4 := pq 4
                have p5 := pq 5
                have p6 := pq 6
                simp only [List.getElem?_toArray, List.getElem?_cons_zero, List.getElem?_cons_succ] at p0 p1 p2 p3 p4 p5 p6
                clear pq
                rw [hmm] at p0
                have Hcy := Lib.hid hcy
                have Hmm := Lib.hid hmm
                replace p0 := Later.cell p0
                replace p1 := Later.cell p1
                replace dy := Later.cell dy
                clear hy hcy hyb hm hmt hmm
                go_upto_region 16 with (fail)
                cases h4 : inB x.number 0 (y - 1) with
                | false =>
                  have hf := Lib.hid (tapsF_bad Ht.out Hn40.out Hcb.out (List.mem_of_getElem? Hx.out) (tapB_false fun h => by rw [Hcy.out, h4] at h; exact absurd h.2.2.2 (by decide)))
                  have H4b := Lib.hid h4
                  clear h4
                  refine wp_region_later (by kernel_rfl) (by kernel_rfl) ?_
                  repeat (change wpQuiet _ _ _ _ (_ :: _) _; go_big_quiet_step (fail))
                  go_big_quiet_step ((go_at_call 41; exact Later.call (Same.gives (Same.to H4b.out (In_same _ _ _ _)))))
                  repeat (change wpQuiet _ _ _ _ (_ :: _) _; go_big_quiet_step (fail))
                  refine wpQuiet_nil ?_
                  intro w5 hL5
                  have hb5 := Later.out hL5
                  clear hL5 p0 p1 p2 p3 p4 p5 p6 dy
                  go_wp2
                  go_ret
                  exact Fin.out _ _ hf.out (HBV.out.trans ((HB4.out.trans (hb5.mono HB4.out.size)).mono HBV.out.size))
                | true =>
                  have htb : tapB t cs x = true := by
                    unfold tapB
                    rw [H1.out, H2.out, H3.out, Hcy.out, h4]
                    rfl
                  have H4b := Lib.hid h4
                  have Htb := Lib.hid htb
                  clear h4 htb
                  refine wp_region_later (by kernel_rfl) (by kernel_rfl) ?_
                  repeat (change wpQuiet _ _ _ _ (_ :: _) _; go_big_quiet_step (fail))
                  go_big_quiet_step ((go_at_call 41; exact Later.call (Same.gives (Same.to H4b.out (In_same _ _ _ _)))))
                  repeat (change wpQuiet _ _ _ _ (_ :: _) _; go_big_quiet_step (fail))
                  refine wpQuiet_nil ?_
                  intro w5 hL5
                  have hb5 := Later.out hL5
                  clear hL5 p0 p1 p2 p3 p4 p5 p6 dy
                  go_wp2
                  go_roundw
                  case rel =>
                    refine ⟨k + 1, by omega, by go_num, HB4.out.trans (hb5.mono HB4.out.size), fun j y hj hy => ?_⟩
                    by_cases e : j = k
                    · subst e
                      rw [Hx.out] at hy
                      cases hy
                      exact Htb.out
                    · exact Hall.out j y (by omega) hy
                  case measure => simp [intOf]; omega
        · have ik : ¬ (k : Int) < (N : Int) := by omega
          have hta : ∀ x ∈ l, tapB t cs x = true := fun x hx => by
            obtain ⟨i, hi⟩ := List.getElem?_of_mem hx
            exact Hall.out i x (by have := (List.getElem?_eq_some_iff.1 hi).1; have := HN.out; omega) hi
          have Hta := Lib.hid hta
          have HBr := Lib.hid (HBV.out.trans (Hbr.out.mono HBV.out.size))
          clear hta Hall Hbr HBV HXV
          obtain ⟨V3, hV3⟩ : ∃ V3, wr = V3 := ⟨_, rfl⟩
          rw [hV3] at HBr ⊢
          clear hV3
          go_wp2
          go_loopw [10] (fun s wr => ∃ i : Nat, i ≤ N ∧ s = .int .i64 i ∧ Below V3.heap.size V3 wr ∧ ∀ (p q : Nat) (x y : Tp), p < i → q < p → l[p]? = some x → l[q]? = some y → x.machine = y.machine → x.number = y.number → x = y) (fun s wr => N - (intOf s).toNat)
          case atStart => exact ⟨0, by omega, rfl, Below.refl _ _, by intro p q x y h; omega⟩
          case round =>
            obtain ⟨i, hi, rfl, hbi, hal2⟩ := hrel
            have Hal2 := Lib.hid hal2
            have Hbi := Lib.hid hbi
            clear hal2 hbi
            by_cases hli : i < N
            · have ii : (i : Int) < (N : Int) := by omega
              obtain ⟨W4, hW4⟩ : ∃ W4, wr = W4 := ⟨_, rfl⟩
              rw [hW4] at Hbi ⊢
              clear hW4
              go_wp2
              go_loopw [11] (fun s wr => ∃ j : Nat, j ≤ i ∧ s = .int .i64 j ∧ Below W4.heap.size W4 wr ∧ ∀ (q : Nat) (x y : Tp), q < j → l[i]? = some x → l[q]? = some y → x.machine = y.machine → x.number = y.number → x = y) (fun s wr => i - (intOf s).toNat)
              case atStart => exact ⟨0, by omega, rfl, Below.refl _ _, by intro q x y h; omega⟩
              case round =>
                obtain ⟨j, hj, rfl, hbj, hal3⟩ := hrel
                have Hal3 := Lib.hid hal3
                have Hbj := Lib.hid hbj
                clear hal3 hbj
                by_cases hlj : j < i
                · have ij : (j : Int) < (i : Int) := by omega
                  have ijN : (j : Int) < (N : Int) := by omega
                  have hrd := ((Hv.out.below HBr.out).below Hbi.out).below Hbj.out
                  obtain ⟨bb, oo, x, rfl, hx, d0, d1, d2, d3, d4, d5, d6, _⟩ := hrd.at_ (n := N) (k := i) (by have := HN.out; omega)
                  obtain ⟨b2, o2, y, eB, hy, f0, f1, f2, f3, f4, f5, f6, _⟩ := hrd.at_ (n := N) (k := j) (by have := HN.out; omega)
                  cases eB
                  have Hx := Lib.hid hx
                  have Hy := Lib.hid hy
                  clear hx hy hrd
                  replace d0 := Later.cell d0
                  replace d1 := Later.cell d1
                  replace d2 := Later.cell d2
                  replace d3 := Later.cell d3
                  replace d4 := Later.cell d4
                  replace d5 := Later.cell d5
                  replace d6 := Later.cell d6
                  replace f0 := Later.cell f0
                  replace f1 := Later.cell f1
                  replace f2 := Later.cell f2
                  replace f3 := Later.cell f3
                  replace f4 := Later.cell f4
                  replace f5 := Later.cell f5
                  replace f6 := Later.cell f6
                  by_cases e1 : x.machine = y.machine
                  rotate_left
                  · have b1 : (x.machine == y.machine) = false := by simpa using e1
                    have E1 := Lib.hid e1
                    clear e1
                    go_upto_region 24 with (fail)
                    refine wp_region_later (by kernel_rfl) (by kernel_rfl) ?_
                    repeat (change wpQuiet _ _ _ _ (_ :: _) _; go_big_quiet_step (fail))
                    refine wpQuiet_nil ?_
                    intro w5 hL5
                    have hb5 := Later.out hL5
                    clear hL5 d0 d1 d2 d3 d4 d5 d6 f0 f1 f2 f3 f4 f5 f6
                    go_wp2
                    go_roundw
                    case rel => exact ⟨j + 1, by omega, by go_num, Hbj.out.trans (hb5.mono Hbj.out.size), fun q x2 y2 hq hx2 hy2 => by
                      by_cases e : q = j
                      · subst e
                        rw [Hx.out] at hx2
                        rw [Hy.out] at hy2
                        cases hx2
                        cases hy2
                        exact fun h1 _ => absurd h1 E1.out
                      · exact Hal3.out q x2 y2 (by omega) hx2 hy2⟩
                    case measure => simp [intOf]; omega
                  · have b1 : (x.machine == y.machine) = true := by simp [e1]
                    have E1 := Lib.hid e1
                    clear e1
                    by_cases e2 : x.number = y.number
                    rotate_left
                    · have b2 : (x.number == y.number) = false := by simpa using e2
                      have E2 := Lib.hid e2
                      clear e2
                      go_upto_region 24 with (fail)
                      refine wp_region_later (by kernel_rfl) (by kernel_rfl) ?_
                      repeat (change wpQuiet _ _ _ _ (_ :: _) _; go_big_quiet_step (fail))
                      refine wpQuiet_nil ?_
                      intro w5 hL5
                      have hb5 := Later.out hL5
                      clear hL5 d0 d1 d2 d3 d4 d5 d6 f0 f1 f2 f3 f4 f5 f6
                      go_wp2
                      go_roundw
                      case rel => exact ⟨j + 1, by omega, by go_num, Hbj.out.trans (hb5.mono Hbj.out.size), fun q x2 y2 hq hx2 hy2 => by
                      by_cases e : q = j
                      · subst e
                        rw [Hx.out] at hx2
                        rw [Hy.out] at hy2
                        cases hx2
                        cases hy2
                        exact fun _ h2 => absurd h2 E2.out
                      · exact Hal3.out q x2 y2 (by omega) hx2 hy2⟩
                      case measure => simp [intOf]; omega
                    · have b2 : (x.number == y.number) = true := by simp [e2]
                      have E2 := Lib.hid e2
                      clear e2
                      have qe := tapR_neq
                      have qg := tapR_guardN
                      by_cases e3 : x = y
                      · have b3 : decide (x = y) = true := decide_eq_true e3
                        have E3 := Lib.hid e3
                        clear e3
                        go_upto_region 24 with (fail)
                        refine wp_region_later (by kernel_rfl) (by kernel_rfl) ?_
                        repeat (change wpQuiet _ _ _ _ (_ :: _) _; go_big_quiet_step (fail))
                        refine wpQuiet_nil ?_
                        intro w5 hL5
                        have hb5 := Later.out hL5
                        clear hL5 d0 d1 d2 d3 d4 d5 d6 f0 f1 f2 f3 f4 f5 f6 qe qg
                        go_wp2
                        go_roundw
                        case rel => exact ⟨j + 1, by omega, by go_num, Hbj.out.trans (hb5.mono Hbj.out.size), fun q x2 y2 hq hx2 hy2 => by
                      by_cases e : q = j
                      · subst e
                        rw [Hx.out] at hx2
                        rw [Hy.out] at hy2
                        cases hx2
                        cases hy2
                        exact fun _ _ => E3.out
                      · exact Hal3.out q x2 y2 (by omega) hx2 hy2⟩
                        case measure => simp [intOf]; omega
                      · have b3 : decide (x = y) = false := decide_eq_false e3
                        have hf := Lib.hid (tapsF_two Ht.out Hn40.out Hcb.out Hta.out (List.mem_of_getElem? Hx.out) (List.mem_of_getElem? Hy.out) E1.out E2.out e3)
                        clear e3
                        go_upto_region 24 with (fail)
                        refine wp_region_later (by kernel_rfl) (by kernel_rfl) ?_
                        repeat (change wpQuiet _ _ _ _ (_ :: _) _; go_big_quiet_step (fail))
                        refine wpQuiet_nil ?_
                        intro w5 hL5
                        have hb5 := Later.out hL5
                        clear hL5 d0 d1 d2 d3 d4 d5 d6 f0 f1 f2 f3 f4 f5 f6 qe qg
                        go_wp2
                        go_ret
                        exact Fin.out _ _ hf.out (HBr.out.trans ((Hbi.out.trans ((Hbj.out.trans (hb5.mono Hbj.out.size)).mono Hbi.out.size)).mono HBr.out.size))
                · have ij : ¬ (j : Int) < (i : Int) := by omega
                  go_wp2
                  go_roundw
                  case rel =>
                    refine ⟨i + 1, by omega, by go_num, Hbi.out.trans (Hbj.out.mono Hbi.out.size), fun p q x y hp hq hx hy h1 h2 => ?_⟩
                    by_cases e : p = i
                    · subst e
                      exact Hal3.out q x y (by omega) hx hy h1 h2
                    · exact Hal2.out p q x y (by omega) hq hx hy h1 h2
                  case measure => simp [intOf]; omega
            · have ii : ¬ (i : Int) < (N : Int) := by omega
              have hno : NoClash l := fun x hx y hy h1 h2 => by
                obtain ⟨p, hp⟩ := List.getElem?_of_mem hx
                obtain ⟨q, hq⟩ := List.getElem?_of_mem hy
                have lp := (List.getElem?_eq_some_iff.1 hp).1
                have lq := (List.getElem?_eq_some_iff.1 hq).1
                have := HN.out
                rcases Nat.lt_trichotomy q p with h | h | h
                · exact Hal2.out p q x y (by omega) h hp hq h1 h2
                · subst h
                  rw [hp] at hq
                  injection hq
                · exact (Hal2.out q p y x (by omega) h hq hp h1.symm h2.symm).symm
              have Hno := Lib.hid hno
              have HBi := Lib.hid (HBr.out.trans (Hbi.out.mono HBr.out.size))
              clear hno Hal2 Hbi HBr
              obtain ⟨V5, hV5⟩ : ∃ V5, wr = V5 := ⟨_, rfl⟩
              rw [hV5] at HBi ⊢
              clear hV5
              go_wp2
              go_loopw [12] (fun s wr => ∃ k : Nat, k ≤ 10 ∧ s = .int .i64 k ∧ Below V5.heap.size V5 wr ∧ ∀ c : Nat, c < k → (onceL (ridesC l c)).length ≤ 12) (fun s wr => 10 - (intOf s).toNat)
              case atStart => exact ⟨0, by omega, rfl, Below.refl _ _, by intro c h; omega⟩
              case round =>
                obtain ⟨k, hk, rfl, hbk, hal4⟩ := hrel
                have Hal4 := Lib.hid hal4
                have Hbk := Lib.hid hbk
                clear hal4 hbk
                by_cases hk10 : k < 10
                · have ik : (k : Int) < 10 := by omega
                  go_wp2_with fail
                  refine (Rides_ref _ l (k : Int) wr ((Hv.out.below HBi.out).below Hbk.out) (by have := HN.out; omega)).mono ?_
                  rintro e w6 ⟨A6, c6, rfl, _, hb6⟩
                  have hul := uniqL_len (ridesC l (k : Int))
                  obtain ⟨m, hm⟩ : ∃ m, (uniqL (ridesC l (k : Int))).length = m := ⟨_, rfl⟩
                  rw [hm] at hul ⊢
                  have HB6 := Lib.hid (Hbk.out.trans (hb6.mono Hbk.out.size))
                  have Hul := Lib.hid hul
                  clear hm hul hb6
                  by_cases h12 : 12 < m
                  · have i12 : (12 : Int) < (m : Int) := by omega
                    have hf := Lib.hid (tapsF_many Ht.out Hn40.out Hcb.out Hta.out Hno.out hk10 (by rw [← Hul.out]; exact h12))
                    clear h12
                    go_wp2
                    go_ret
                    exact Fin.out _ _ hf.out (HBi.out.trans (HB6.out.mono HBi.out.size))
                  · have i12 : ¬ (12 : Int) < (m : Int) := by omega
                    have H12 := Lib.hid h12
                    clear h12
                    go_wp2
                    go_roundw
                    case rel =>
                      refine ⟨k + 1, by omega, by go_num, HB6.out, fun c hc => ?_⟩
                      by_cases e : c = k
                      · subst e
                        rw [← Hul.out]
                        have := H12.out
                        omega
                      · exact Hal4.out c (by omega)
                    case measure => simp [intOf]; omega
                · have ik : ¬ (k : Int) < 10 := by omega
                  have hf := Lib.hid (tapsF_ok.2 ⟨Ht.out, by have := Hn40.out; omega, HM.out.trans H4.out, Hcs.out, Hta.out, Hno.out, fun c hc => Hal4.out c (by omega)⟩)
                  go_wp2
                  go_ret
                  exact Fin.out _ _ hf.out (HBi.out.trans (Hbk.out.mono HBi.out.size))
end Go.Proofs.Ytmbkpfkkohpnkaa
