import Derived.Test.YtmbkpfkkohpnkaaKl
import Derived.Test.YtmbkpfkkohpnkaaI1
set_option linter.unusedVariables false
set_option linter.unusedSimpArgs false
namespace Go.Proofs.Ytmbkpfkkohpnkaa
open Go Go.Proofs Go.RowKit

/-- Operations that hand back a value and nothing else: min and max, too. -/
def pureM : Op → Bool
  | .call { callee := .builtin .min, .. } | .call { callee := .builtin .max, .. } => true
  | o => pureKind o
theorem pureM_value {P : Program} {o : Oper} {ρ : Operand → Value} {w w' : World} {n : Next} (hk : pureM o.op = true) (h : (execOp ρ o).run P w = .ok n w') : ∃ v, n = .value v := by
  by_cases hp : pureKind o.op = true
  · exact pure_value hp h
  · unfold execOp at h
    cases hop : o.op <;> rw [hop] at hk hp h <;> (try (exact absurd hk hp))
    case call c =>
      obtain ⟨callee, args, tys⟩ := c
      cases callee <;> (try (exact absurd hk hp))
      rename_i b
      cases b <;> (try (exact absurd hk hp)) <;>
      · simp only [resolve, invoke, builtin, Sem.run_bind, Sem.run_pure, Result.andThen_ok] at h
        exact andThen_value h
section
variable {P : Program} {ops : Array Oper} {Q : Exit → Act → World → Prop} {md : Region.Mode} {S : World → Prop} {kp : Nat → Bool}
def frontPickM (md : Region.Mode) (ops : Array Oper) (kp : Nat → Bool) : List Nat → Array Bool → Bool
  | [], _ => true
  | i :: is, listed => (match ops[i]? with | some o => pureM o.op | none => false) && ((Region.ready md ops listed).contains i && (Region.free md ops listed i && (frontB md ops kp i && frontPickM md ops kp is (listed.setIfInBounds i true))))
theorem wpAnyF_pickM (hs : Region.noSelect ops = true) (hQ : ∀ c a d v w, Q (.panic c) (a.put d v) w → Q (.panic c) a w) (m : Nat) : ∀ (is : List Nat) (listed : Array Bool) (a : Act) (w : World),
    frontPickM md ops kp is listed = true → S w →
    wpQuiet P ops (fun w' => ∃ x : Meets S, w' = x.val) (fun a' => wpAnyF P md ops Q S kp m (listAll is listed) a' w) (pick ops.toList is) a → wpAnyF P md ops Q S kp (is.length + m) listed a w
  | [], listed, a, w, _, _, h => by simpa [pick, wpQuiet, listAll] using h
  | i :: is, listed, a, w, hB, hS, h => by
    cases h0 : ops[i]? with
    | none => simp [frontPickM, h0] at hB
    | some o =>
      have hp : pick ops.toList (i :: is) = o :: pick ops.toList is := by
        unfold pick
        rw [List.filterMap_cons]
        simp [h0]
      simp only [frontPickM, h0, Bool.and_eq_true] at hB
      obtain ⟨hpk, hr, hf, hk, hB'⟩ := hB
      rw [hp] at h
      have hq : qOp P ops (fun w' => ∃ x : Meets S, w' = x.val) i (wpQuiet P ops (fun w' => ∃ x : Meets S, w' = x.val) (fun a' => wpAnyF P md ops Q S kp m (listAll (i :: is) listed) a' w) (pick ops.toList is)) a := by
        unfold qOp; simp only [h0]; exact h
      obtain ⟨v, hy, hK⟩ := yieldsIn_of_qOp h0 hq
      have hy' : YieldsIf P ops S o v a := by
        rcases hy with ⟨hw, hv⟩ | hy
        · exact .inl ⟨hw, fun w' hS' => quiet_value (fun n w1 h1 => pureM_value hpk h1) (hv w' ⟨⟨w', hS'⟩, rfl⟩)⟩
        · exact .inr hy
      rw [show (i :: is).length + m = (is.length + m) + 1 from by simp only [List.length_cons]; omega]
      exact wpAnyF_take h0 hs hf hr hk (fun c a w => hQ c a _ _ w) hy' hS (wpAnyF_pickM hs hQ m is _ _ w hB' hS hK)
/-- **A region that only reads, min and max among it.** -/
theorem wp_region_pickM {id : Nat} {a : Act} {w : World} {ol : List Oper} (fs : List Nat) (m : Nat) (kp : Nat → Bool) (S : World → Prop) (hm : P.follows .mixedOrders = true)
    (hB : (Region.noSelect ol.toArray && (frontPickM .any ol.toArray kp fs (Array.replicate ol.toArray.size false) && decide (fs.length + m = ol.length))) = true)
    (hQ : ∀ c a d v w, Q (.panic c) (a.put d v) w → Q (.panic c) a w) (hS : S w.drew)
    (h : Nonempty (Meets S) → wpQuiet P ol.toArray (fun w' => ∃ x : Meets S, w' = x.val) (fun a' => wpAnyF P .any ol.toArray Q S kp m (listAll fs (Array.replicate ol.toArray.size false)) a' w.drew) (pick ol fs) a) :
    (Code.region id ol.toArray true).wp P Q a w := by
  simp only [Bool.and_eq_true, decide_eq_true_eq] at hB
  obtain ⟨h1, h2, h3⟩ := hB
  refine wp_region_front kp S hm ?_
  have hq' := h ⟨⟨w.drew, hS⟩⟩
  have := wpAnyF_pickM (P := P) (ops := ol.toArray) (Q := Q) (md := .any) (S := S) (kp := kp) h1 hQ m fs (Array.replicate ol.toArray.size false) a w.drew h2 hS (by simpa using hq')
  rw [h3] at this
  simpa using this
end
theorem ifmin (a b : Int) : (if b < a then b else a) = min a b := by split <;> omega
theorem ifmax (a b : Int) : (if a < b then b else a) = max a b := by split <;> omega
/-- What the first rides span. -/
def stI (r : Rd) (g : List Rd) (i : Nat) : St := ((g.drop 1).take (i - 1)).foldl (stAdd r.day) ⟨r.low, r.high, r.minute, r.minute, true⟩
theorem stI_succ {r : Rd} {g : List Rd} {i : Nat} {x : Rd} (h1 : 1 ≤ i) (h : g[i]? = some x) : stI r g (i + 1) = stAdd r.day (stI r g i) x := by
  unfold stI
  obtain ⟨k, rfl⟩ : ∃ k, i = k + 1 := ⟨i - 1, by omega⟩
  simp only [Nat.add_sub_cancel]
  rw [List.take_add_one, List.getElem?_drop, Nat.add_comm 1 k, h, List.foldl_append]
  rfl
theorem stI_all (r : Rd) (l : List Rd) : stI r (r :: l) (r :: l).length = stL r l := by
  unfold stI stL
  simp
theorem stL_bd {t : Tar} {r : Rd} {l : List Rd} (hr : ∀ x ∈ r :: l, rideB t x = true) : (0 ≤ (stL r l).low ∧ (stL r l).low ≤ (stL r l).high ∧ (stL r l).high < t.zones) ∧ (0 ≤ (stL r l).fst ∧ (stL r l).fst ≤ 1439) ∧ 0 ≤ (stL r l).lst ∧ (stL r l).lst ≤ 1439 := by
  have hs := stL_ok r l
  obtain ⟨a, ha, e1⟩ := hs.hlow
  obtain ⟨b, hb, e2⟩ := hs.hhigh
  obtain ⟨c, hc, e3⟩ := hs.hfst
  obtain ⟨d, hd, e4⟩ := hs.hlst
  obtain ⟨_, _, a1, a2, a3⟩ := rideB_iff.1 (hr a ha)
  obtain ⟨_, _, b1, b2, b3⟩ := rideB_iff.1 (hr b hb)
  obtain ⟨_, c1, _⟩ := rideB_iff.1 (hr c hc)
  obtain ⟨_, d1, _⟩ := rideB_iff.1 (hr d hd)
  have := hs.high a ha
  omega
set_option maxRecDepth 100000 in
set_option maxHeartbeats 4000000 in
theorem One_ref (t : Tar) (a b c v : Value) (r : Rd) (l : List Rd) (w : World) (hT : TarAt w a b c t) (ht : tarB t = true) (hv : RdsAt w v (r :: l)) (hr : ∀ x ∈ r :: l, rideB t x = true) (hl : (r :: l).length ≤ 1000) :
    Calls Try.prog 57 #[.agg #[.int .i64 t.zones, a, b, c, .int .i64 t.window], v] w (Gives w (.int .i64 (oneT t (r :: l)))) := by
  obtain ⟨AV, cv, rfl, _, _⟩ := hv.form
  obtain ⟨g, hg⟩ : ∃ g, r :: l = g := ⟨_, rfl⟩
  have hg0 : g[0]? = some r := by rw [← hg]; rfl
  have hone : oneT t g = stP t (stI r g g.length) := by rw [← hg, stI_all]; rfl
  have hbd := stL_bd hr
  rw [← stI_all, hg] at hbd
  rw [hg] at hv hl ⊢
  obtain ⟨N, hN⟩ : ∃ N, g.length = N := ⟨_, rfl⟩
  rw [hN] at hv hl hone hbd ⊢
  have h1N : 1 ≤ N := by rw [← hN]; have := (List.getElem?_eq_some_iff.1 hg0).1; omega
  obtain ⟨bv, ov, r0, rfl, hr0, e0, e1, e2, e3, _⟩ := hv.at_ (k := 0) (by omega)
  rw [hg0] at hr0
  cases hr0
  simp only [Nat.zero_mul, Nat.add_zero] at e0 e1 e2 e3
  have E0 := Lib.hid e0
  have E1 := Lib.hid e1
  have E2 := Lib.hid e2
  have E3 := Lib.hid e3
  have HN := Lib.hid hN
  have HT := Lib.hid hT
  have Ht := Lib.hid ht
  have Hv := Lib.hid hv
  have Hone := Lib.hid hone
  have Hbd := Lib.hid hbd
  have iN : (0 : Int) < (N : Int) := by omega
  clear hT ht hv hN hg hg0 hone hbd hr e0 e1 e2 e3
  go_enter Try.func57, Try.ntmps57
  go_upto_region 1 with (fail)
  refine wp_name (fun W => Below w.heap.size w W ∧ W.heap[w.heap.size]? = some (.cells #[.int .i64 t.zones, a, b, c, .int .i64 t.window] 24 (0, 0))) ⟨(Below.refl _ _).alloc (Nat.le_refl _) _, heap_alloc_new w _⟩ (fun W0 hW => ?_)
  obtain ⟨hb0, hx0⟩ := hW
  have HB0 := Lib.hid hb0
  have HX0 := Lib.hid hx0
  clear hb0 hx0
  go_upto_region 1 with (fail)
  refine wp_region_noPanic ?_
  refine wp_region_pickM [0, 1, 2, 3, 4, 5, 6, 7, 8, 9, 10, 11, 12, 13, 14, 15, 16, 17, 18, 19, 20] 0 (fun _ => true) (fun w' => Below w.heap.size w w') (by kernel_rfl) (by kernel_rfl) (fun _ _ _ _ _ h => h) HB0.out.drew (fun hne => ?_)
  have n0 := fun x : Meets (fun w' => Below w.heap.size w w') => cell_below x.property E0.out
  have n1 := fun x : Meets (fun w' => Below w.heap.size w w') => cell_below x.property E1.out
  have n2 := fun x : Meets (fun w' => Below w.heap.size w w') => cell_below x.property E2.out
  have n3 := fun x : Meets (fun w' => Below w.heap.size w w') => cell_below x.property E3.out
  simp only [pick, pickN, List.filterMap_cons, List.filterMap_nil, List.getElem?_cons_zero, List.getElem?_cons_succ, Option.map_some]
  repeat (change wpQuiet _ _ _ _ (_ :: _) _; go_big_quiet_step (fail))
  refine wpQuiet_nil ?_
  clear n0 n1 n2 n3 hne
  refine wpAnyF_done (by kernel_rfl) ?_ _
  refine NoPanic.normal ?_
  go_wp2
  go_loopw [5, 6, 7, 8, 9, 10] (fun sl sh sf sla ss si wr => ∃ i : Nat, 1 ≤ i ∧ i ≤ N ∧ sl = .int .i64 (stI r g i).low ∧ sh = .int .i64 (stI r g i).high ∧ sf = .int .i64 (stI r g i).fst ∧ sla = .int .i64 (stI r g i).lst ∧ ss = .bool (stI r g i).same ∧ si = .int .i64 i ∧ Below W0.heap.size W0 wr) (fun sl sh sf sla ss si wr => N - (intOf si).toNat)
  case atStart => exact ⟨1, by omega, h1N, rfl, rfl, rfl, rfl, rfl, rfl, (Below.refl _ _).drew⟩
  case round =>
    obtain ⟨i, hi1, hi, rfl, rfl, rfl, rfl, rfl, rfl, hbr⟩ := hrel
    have Hbr := Lib.hid hbr
    have Hbw := Lib.hid (HB0.out.trans (hbr.mono HB0.out.size))
    clear hbr
    by_cases hlt : i < N
    · have ii : (i : Int) < (N : Int) := by omega
      obtain ⟨bx, ox, x, ea, hx, f0, f1, f2, f3, _⟩ := Hv.out.at_ (k := i) (by rw [HN.out]; exact hlt)
      cases ea
      have hsu := stI_succ (r := r) hi1 hx
      obtain ⟨S, hS⟩ : ∃ S, stI r g i = S := ⟨_, rfl⟩
      rw [hS] at hsu ⊢
      have Hsu := Lib.hid hsu
      have F0 := Lib.hid f0
      have F1 := Lib.hid f1
      have F2 := Lib.hid f2
      have F3 := Lib.hid f3
      clear hx hsu hS f0 f1 f2 f3
      have iw : IntKind.i64.wrap ((i : Int) + 1) = ((i + 1 : Nat) : Int) := by rw [IntWalk.i64_in _ (by omega)]; rfl
      go_upto_region 5 with (fail)
      refine wp_region_noPanic ?_
      refine wp_region_pickM [0, 1, 2, 3, 4, 5, 6, 7, 8, 9, 10, 11, 12, 13, 14, 15] 0 (fun _ => true) (fun w' => Below w.heap.size w w') (by kernel_rfl) (by kernel_rfl) (fun _ _ _ _ _ h => h) Hbw.out.drew (fun hne => ?_)
      have n0 := fun x : Meets (fun w' => Below w.heap.size w w') => cell_below x.property F2.out
      have n1 := fun x : Meets (fun w' => Below w.heap.size w w') => cell_below x.property F3.out
      simp only [pick, pickN, List.filterMap_cons, List.filterMap_nil, List.getElem?_cons_zero, List.getElem?_cons_succ, Option.map_some]
      repeat (change wpQuiet _ _ _ _ (_ :: _) _; go_big_quiet_step (fail))
      refine wpQuiet_nil ?_
      clear n0 n1 hne
      refine wpAnyF_done (by kernel_rfl) ?_ _
      refine NoPanic.normal ?_
      rw [ifmin, ifmax]
      go_upto_region 6 with (fail)
      refine wp_name (fun V => Below w.heap.size w V ∧ Below W0.heap.size W0 V) ⟨Hbw.out.drew, Hbr.out.drew⟩ (fun V hV => ?_)
      obtain ⟨hv1, hv2⟩ := hV
      have Hc1 := Lib.hid hv1
      have Hb1 := Lib.hid hv2
      clear hv1 hv2
      go_upto_region 6 with (fail)
      refine wp_region_noPanic ?_
      refine wp_region_pickM [0, 1, 2, 3, 4, 5, 6, 7, 8, 9, 10, 11, 12, 13, 14, 15] 0 (fun _ => true) (fun w' => Below w.heap.size w w') (by kernel_rfl) (by kernel_rfl) (fun _ _ _ _ _ h => h) Hc1.out.drew (fun hne => ?_)
      have n0 := fun x : Meets (fun w' => Below w.heap.size w w') => cell_below x.property F1.out
      simp only [pick, pickN, List.filterMap_cons, List.filterMap_nil, List.getElem?_cons_zero, List.getElem?_cons_succ, Option.map_some]
      repeat (change wpQuiet _ _ _ _ (_ :: _) _; go_big_quiet_step (fail))
      refine wpQuiet_nil ?_
      clear n0 hne
      refine wpAnyF_done (by kernel_rfl) ?_ _
      refine NoPanic.normal ?_
      rw [ifmin, ifmax]
      
      cases hsm : S.same with
      | false =>
        have Hsa := Lib.hid (show (stI r g (i + 1)).same = false by rw [Hsu.out]; simp [stAdd, hsm])
        go_upto_region 7 with (fail)
        refine wp_name (fun V => Below w.heap.size w V ∧ Below W0.heap.size W0 V) ⟨Hc1.out.drew, Hb1.out.drew⟩ (fun V2 hV => ?_)
        obtain ⟨hv1, hv2⟩ := hV
        have Hc2 := Lib.hid hv1
        have Hb2 := Lib.hid hv2
        clear hv1 hv2
        go_upto_region 7 with (fail)
        refine wp_region_noPanic ?_
        refine wp_region_pickM [0, 1, 2, 3, 4, 5, 6, 7, 8, 9, 10, 11, 12, 13] 0 (fun _ => true) (fun w' => Below w.heap.size w w') (by kernel_rfl) (by kernel_rfl) (fun _ _ _ _ _ h => h) Hc2.out.drew (fun hne => ?_)
        have n0 := fun x : Meets (fun w' => Below w.heap.size w w') => cell_below x.property E0.out
        have n1 := fun x : Meets (fun w' => Below w.heap.size w w') => cell_below x.property F0.out
        simp only [pick, pickN, List.filterMap_cons, List.filterMap_nil, List.getElem?_cons_zero, List.getElem?_cons_succ, Option.map_some]
        repeat (change wpQuiet _ _ _ _ (_ :: _) _; go_big_quiet_step (fail))
        refine wpQuiet_nil ?_
        clear n0 n1 hne
        refine wpAnyF_done (by kernel_rfl) ?_ _
        refine NoPanic.normal ?_
        go_wp2
        go_roundw
        case rel => exact ⟨i + 1, by omega, by omega, by rw [Hsu.out]; rfl, by rw [Hsu.out]; rfl, by rw [Hsu.out]; rfl, by rw [Hsu.out]; rfl, by rw [Hsa.out], by go_num, Hb2.out.drew⟩
        case measure => simp [intOf]; omega
      | true =>
        by_cases hd : x.day = r.day
        · have hd1 : (x.day == r.day) = true := by simp [hd]
          have Hsa := Lib.hid (show (stI r g (i + 1)).same = true by rw [Hsu.out]; simp [stAdd, hsm, hd])
          clear hd hsm
          go_upto_region 7 with (fail)
          refine wp_name (fun V => Below w.heap.size w V ∧ Below W0.heap.size W0 V) ⟨Hc1.out.drew, Hb1.out.drew⟩ (fun V2 hV => ?_)
          obtain ⟨hv1, hv2⟩ := hV
          have Hc2 := Lib.hid hv1
          have Hb2 := Lib.hid hv2
          clear hv1 hv2
          go_upto_region 7 with (fail)
          refine wp_region_noPanic ?_
          refine wp_region_pickM [0, 1, 2, 3, 4, 5, 6, 7, 8, 9, 10, 11, 12, 13] 0 (fun _ => true) (fun w' => Below w.heap.size w w') (by kernel_rfl) (by kernel_rfl) (fun _ _ _ _ _ h => h) Hc2.out.drew (fun hne => ?_)
          have n0 := fun x : Meets (fun w' => Below w.heap.size w w') => cell_below x.property E0.out
          have n1 := fun x : Meets (fun w' => Below w.heap.size w w') => cell_below x.property F0.out
          simp only [pick, pickN, List.filterMap_cons, List.filterMap_nil, List.getElem?_cons_zero, List.getElem?_cons_succ, Option.map_some]
          repeat (change wpQuiet _ _ _ _ (_ :: _) _; go_big_quiet_step (fail))
          refine wpQuiet_nil ?_
          clear n0 n1 hne
          refine wpAnyF_done (by kernel_rfl) ?_ _
          refine NoPanic.normal ?_
          go_wp2
          go_roundw
          case rel => exact ⟨i + 1, by omega, by omega, by rw [Hsu.out]; rfl, by rw [Hsu.out]; rfl, by rw [Hsu.out]; rfl, by rw [Hsu.out]; rfl, by rw [Hsa.out], by go_num, Hb2.out.drew⟩
          case measure => simp [intOf]; omega
        · have hd1 : (x.day == r.day) = false := by simpa using hd
          have Hsa := Lib.hid (show (stI r g (i + 1)).same = false by rw [Hsu.out]; simp [stAdd, hsm, hd])
          clear hd hsm
          go_upto_region 7 with (fail)
          refine wp_name (fun V => Below w.heap.size w V ∧ Below W0.heap.size W0 V) ⟨Hc1.out.drew, Hb1.out.drew⟩ (fun V2 hV => ?_)
          obtain ⟨hv1, hv2⟩ := hV
          have Hc2 := Lib.hid hv1
          have Hb2 := Lib.hid hv2
          clear hv1 hv2
          go_upto_region 7 with (fail)
          refine wp_region_noPanic ?_
          refine wp_region_pickM [0, 1, 2, 3, 4, 5, 6, 7, 8, 9, 10, 11, 12, 13] 0 (fun _ => true) (fun w' => Below w.heap.size w w') (by kernel_rfl) (by kernel_rfl) (fun _ _ _ _ _ h => h) Hc2.out.drew (fun hne => ?_)
          have n0 := fun x : Meets (fun w' => Below w.heap.size w w') => cell_below x.property E0.out
          have n1 := fun x : Meets (fun w' => Below w.heap.size w w') => cell_below x.property F0.out
          simp only [pick, pickN, List.filterMap_cons, List.filterMap_nil, List.getElem?_cons_zero, List.getElem?_cons_succ, Option.map_some]
          repeat (change wpQuiet _ _ _ _ (_ :: _) _; go_big_quiet_step (fail))
          refine wpQuiet_nil ?_
          clear n0 n1 hne
          refine wpAnyF_done (by kernel_rfl) ?_ _
          refine NoPanic.normal ?_
          go_wp2
          go_roundw
          case rel => exact ⟨i + 1, by omega, by omega, by rw [Hsu.out]; rfl, by rw [Hsu.out]; rfl, by rw [Hsu.out]; rfl, by rw [Hsu.out]; rfl, by rw [Hsa.out], by go_num, Hb2.out.drew⟩
          case measure => simp [intOf]; omega
    · have ii : ¬ (i : Int) < (N : Int) := by omega
      have hie : i = N := by omega
      have hone := Hone.out
      have hbd := Hbd.out
      have hbw := Hbw.out
      have hxw := (Hbr.out.block _ (Array.getElem?_eq_some_iff.1 HX0.out).1).trans HX0.out
      rw [hie]
      obtain ⟨S, hS⟩ : ∃ S, stI r g N = S := ⟨_, rfl⟩
      rw [hS] at hone hbd ⊢
      obtain ⟨⟨z1, z2, z3⟩, ⟨f1, f2⟩, l1, l2⟩ := hbd
      have HL := Lib.hid (fun (K : Nat) (hK : K ≤ 2) (W : World) (hW : Below w.heap.size w W) => least_ref t a b c K S.low S.high W (HT.out.below hW) Ht.out hK ⟨z1, z2, z3⟩)
      have q : IntKind.i64.wrap (S.lst - S.fst) = S.lst - S.fst := IntWalk.i64_in _ (by omega)
      obtain ⟨p0, hp0⟩ : ∃ p, leastK t 0 S.low S.high = p := ⟨_, rfl⟩
      obtain ⟨p1, hp1⟩ : ∃ p, leastK t 1 S.low S.high = p := ⟨_, rfl⟩
      obtain ⟨p2, hp2⟩ : ∃ p, leastK t 2 S.low S.high = p := ⟨_, rfl⟩
      have HL0 := Lib.hid (HL.out 0 (by omega))
      have HL1 := Lib.hid (HL.out 1 (by omega))
      have HL2 := Lib.hid (HL.out 2 (by omega))
      rw [hp0] at HL0
      rw [hp1] at HL1
      rw [hp2] at HL2
      have hst : stP t S = if S.same && decide (S.lst - S.fst ≤ t.window) then min (if S.same then min p2 p1 else p2) p0 else (if S.same then min p2 p1 else p2) := by
        rw [← hp0, ← hp1, ← hp2]; rfl
      rw [hst] at hone
      have Hone2 := Lib.hid hone
      have Hbw2 := Lib.hid hbw
      have Hxw := Lib.hid hxw
      obtain ⟨w3, hw3⟩ : ∃ w3, w3 = wr := ⟨_, rfl⟩
      rw [← hw3] at Hbw2 Hxw ⊢
      clear hS hst hone hbw hxw hp0 hp1 hp2 z1 z2 z3 f1 f2 l1 l2 hie hw3 hi hi1 hlt
      have aq := box_cells Hxw.out
      have a0 := aq 0
      have a1 := aq 1
      have a2 := aq 2
      have a3 := aq 3
      have a4 := aq 4
      simp only [List.getElem?_toArray, List.getElem?_cons_zero, List.getElem?_cons_succ] at a0 a1 a2 a3 a4
      clear aq
      go_wp2_with fail
      refine (HL2.out _ Hbw2.out).mono ?_
      rintro e w4 ⟨rfl, hb4⟩
      have Hbw4 := Lib.hid (Hbw2.out.trans (hb4.mono Hbw2.out.size))
      have Hxw4 := Lib.hid ((hb4.block _ (Array.getElem?_eq_some_iff.1 Hxw.out).1).trans Hxw.out)
      clear hb4 a0 a1 a2 a3 a4
      cases hsm : S.same with
      | false =>
        have Hr := Lib.hid (show oneT t g = p2 by rw [Hone2.out, hsm]; simp)
        go_wp2
        go_ret
        exact ⟨by rw [Hr.out]; rfl, Hbw4.out⟩
      | true =>
        have aq := box_cells Hxw4.out
        have a0 := aq 0
        have a1 := aq 1
        have a2 := aq 2
        have a3 := aq 3
        have a4 := aq 4
        simp only [List.getElem?_toArray, List.getElem?_cons_zero, List.getElem?_cons_succ] at a0 a1 a2 a3 a4
        clear aq
        go_wp2_with fail
        refine (HL1.out _ Hbw4.out).mono ?_
        rintro e w5 ⟨rfl, hb5⟩
        have Hbw5 := Lib.hid (Hbw4.out.trans (hb5.mono Hbw4.out.size))
        have Hxw5 := Lib.hid ((hb5.block _ (Array.getElem?_eq_some_iff.1 Hxw4.out).1).trans Hxw4.out)
        clear hb5 a0 a1 a2 a3 a4
        have aq := box_cells Hxw5.out
        have a0 := aq 0
        have a1 := aq 1
        have a2 := aq 2
        have a3 := aq 3
        have a4 := aq 4
        simp only [List.getElem?_toArray, List.getElem?_cons_zero, List.getElem?_cons_succ] at a0 a1 a2 a3 a4
        clear aq
        by_cases hwn : S.lst - S.fst ≤ t.window
        · have Hr := Lib.hid (show oneT t g = min (min p2 p1) p0 by rw [Hone2.out, hsm]; simp [hwn])
          by_cases c1 : p1 < p2
          · by_cases c0 : p0 < p1
            · skip
              go_wp2_with fail
              refine (HL0.out _ Hbw5.out).mono ?_
              rintro e w6 ⟨rfl, hb6⟩
              have Hbw6 := Lib.hid (Hbw5.out.trans (hb6.mono Hbw5.out.size))
              have Hxw6 := Lib.hid ((hb6.block _ (Array.getElem?_eq_some_iff.1 Hxw5.out).1).trans Hxw5.out)
              clear hb6 a0 a1 a2 a3 a4
              go_wp2
              go_ret
              exact ⟨by rw [Hr.out, show min (min p2 p1) p0 = p0 by omega]; rfl, Hbw6.out⟩
            · skip
              go_wp2_with fail
              refine (HL0.out _ Hbw5.out).mono ?_
              rintro e w6 ⟨rfl, hb6⟩
              have Hbw6 := Lib.hid (Hbw5.out.trans (hb6.mono Hbw5.out.size))
              have Hxw6 := Lib.hid ((hb6.block _ (Array.getElem?_eq_some_iff.1 Hxw5.out).1).trans Hxw5.out)
              clear hb6 a0 a1 a2 a3 a4
              go_wp2
              go_ret
              exact ⟨by rw [Hr.out, show min (min p2 p1) p0 = p1 by omega]; rfl, Hbw6.out⟩
          · by_cases c0 : p0 < p2
            · skip
              go_wp2_with fail
              refine (HL0.out _ Hbw5.out).mono ?_
              rintro e w6 ⟨rfl, hb6⟩
              have Hbw6 := Lib.hid (Hbw5.out.trans (hb6.mono Hbw5.out.size))
              have Hxw6 := Lib.hid ((hb6.block _ (Array.getElem?_eq_some_iff.1 Hxw5.out).1).trans Hxw5.out)
              clear hb6 a0 a1 a2 a3 a4
              go_wp2
              go_ret
              exact ⟨by rw [Hr.out, show min (min p2 p1) p0 = p0 by omega]; rfl, Hbw6.out⟩
            · skip
              go_wp2_with fail
              refine (HL0.out _ Hbw5.out).mono ?_
              rintro e w6 ⟨rfl, hb6⟩
              have Hbw6 := Lib.hid (Hbw5.out.trans (hb6.mono Hbw5.out.size))
              have Hxw6 := Lib.hid ((hb6.block _ (Array.getElem?_eq_some_iff.1 Hxw5.out).1).trans Hxw5.out)
              clear hb6 a0 a1 a2 a3 a4
              go_wp2
              go_ret
              exact ⟨by rw [Hr.out, show min (min p2 p1) p0 = p2 by omega]; rfl, Hbw6.out⟩
        · have Hr := Lib.hid (show oneT t g = min p2 p1 by rw [Hone2.out, hsm]; simp [hwn])
          by_cases c1 : p1 < p2
          · go_wp2
            go_ret
            exact ⟨by rw [Hr.out, show min p2 p1 = p1 by omega]; rfl, Hbw5.out⟩
          · go_wp2
            go_ret
            exact ⟨by rw [Hr.out, show min p2 p1 = p2 by omega]; rfl, Hbw5.out⟩
end Go.Proofs.Ytmbkpfkkohpnkaa
