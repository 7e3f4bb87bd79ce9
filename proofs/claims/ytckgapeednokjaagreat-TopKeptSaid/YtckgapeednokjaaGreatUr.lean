import Derived.Test.YtckgapeednokjaaGreatUp
set_option linter.unusedVariables false
set_option linter.unusedSimpArgs false
namespace Go.Proofs.YtckgapeednokjaaGreat
open Go Go.Proofs Go.RowKit

/-! ### sheet.merged -/
theorem own_not_map {w : World} {base : Nat} {e T : TypeId} {size n b k : Nat} {v : Value} {xs : List Value} {F : Value → Option Value} (h : w.ownsRow base e size v n xs) (hM : MapN T w b k F) : v.ownBlock = none ∨ v.ownBlock ≠ some b := by
  rcases h.2 with ⟨rfl, _⟩ | ⟨g, cap, cur, rfl, _, hg, _⟩
  · exact .inl rfl
  · right
    intro e
    simp only [Value.ownBlock, Option.some.injEq] at e
    exact hM.notCells hg e
theorem own_base_apart {w w0 : World} {base B : Nat} {e e' : TypeId} {size n size' n' : Nat} {v v' : Value} {xs xs' : List Value} (h : w0.ownsRow base e size v n xs) (hB : w0.heap.size ≤ B) (h' : w.ownsRow B e' size' v' n' xs') : v.ownBlock = none ∨ v.ownBlock ≠ v'.ownBlock := by
  rcases h.2 with ⟨rfl, _⟩ | ⟨g, cap, cur, rfl, _, hg, _⟩
  · exact .inl rfl
  · right
    intro e
    have h1 := (h'.lt g e.symm).1
    have h2 := (Array.getElem?_eq_some_iff.1 hg).1
    omega
theorem take_key {x : List Rc} {i : Nat} {r : Rc} (hpw : x.Pairwise Rlt) (hr : x[i]? = some r) : ∀ s ∈ x.take i, ¬ (s.mac = r.mac ∧ s.seq = r.seq) := fun s hs h => by
  obtain ⟨j, hj⟩ := List.mem_iff_getElem?.1 hs
  rw [List.getElem?_take] at hj
  split at hj
  · obtain ⟨h1, rfl⟩ := List.getElem?_eq_some_iff.1 hj
    obtain ⟨h2, rfl⟩ := List.getElem?_eq_some_iff.1 hr
    have := List.pairwise_iff_getElem.1 hpw j i h1 h2 (by omega)
    rcases this with h3 | ⟨_, h3, _⟩ <;> omega
  · cases hj
theorem own_cap {w : World} {base n c : Nat} {e : TypeId} {size : Nat} {A : Option Addr} {xs : List Value} (h : w.ownsRow base e size (.slice A n c) n xs) : n ≤ c ∧ c ≤ maxLen := by
  rcases h.2 with ⟨h1, h2⟩ | ⟨g, cap, cur, h1, _, _, h3, h4, _⟩
  · cases h1; exact ⟨Nat.le_refl _, by simp [maxLen]⟩
  · cases h1; exact ⟨h3, h4⟩
def GivesMerged (x : List Rc) (w : World) (e : Ending) (w' : World) : Prop := ∃ (A : Option Addr) (c : Nat), e = .returned (.tuple #[.slice A x.length c, .int .i64 0]) ∧ RecsAt w' (.slice A x.length c) x ∧ Below w.heap.size w w'
set_option maxRecDepth 100000 in
set_option maxHeartbeats 6400000 in
theorem merged_ok (b o c : Nat) (u : Value) (x : List Rc) (w : World) (hcell : w.cell? ⟨b, o, none⟩ = some u) (hu : RecsAt w u x) (hc1 : 1 ≤ c ∧ c ≤ maxLen) (h60 : x.length ≤ 60) (hok : ∀ r ∈ x, RcOk r) (hpw : x.Pairwise Rlt) : Calls Tryz.prog 31 #[.slice (some ⟨b, o, none⟩) 1 c] w (GivesMerged x w) := by
  obtain ⟨i0, hi0, hz0, hz1, hz2⟩ := info_parts infoRcS
  have H1 := Lib.hid (checked_ok b o c u x w hcell hu hc1 h60 hok)
  have H2 := Lib.hid (fun (w' : World) (hb : Below w.heap.size w w') => Concat_one b o c u x w' (cell_below hb hcell) (hu.below hb) (by omega))
  have Hok := Lib.hid hok
  have Hpw := Lib.hid hpw
  clear hcell hu hok hpw
  obtain ⟨N, hN⟩ : ∃ N, x.length = N := ⟨_, rfl⟩
  rw [hN] at h60
  have HN := Lib.hid hN
  clear hN
  have mk : ∀ (t : TypeId) (w : World), (Instr.makeMap t none).run Tryz.prog w = .ok (.map (some w.heap.size)) (w.alloc (.map #[] 0)) := fun t w => run_makeMap t w
  go_enter Tryz.func31, Tryz.ntmps31
  go_wp2_with fail
  refine H1.out.mono ?_
  rintro e w1 ⟨rfl, hb1⟩
  have hb1m : Below w.heap.size w (w1.alloc (.map #[] 0)) := hb1.alloc hb1.size _
  have hM1 := mapN_made 177 w1
  obtain ⟨K, hK⟩ : ∃ K, w1.heap.size = K := ⟨_, rfl⟩
  have hK0 : w.heap.size ≤ K := by rw [← hK]; exact hb1.size
  go_wp2_with fail
  refine (H2.out _ hb1m).mono ?_
  rintro e w2 ⟨A2, c2, rfl, hown2, hb2⟩
  rw [HN.out] at hown2 ⊢
  rw [hK] at hM1
  have HM2 := Lib.hid (hM1.below hb2)
  have Hown2 := Lib.hid (own_mono hown2 hb1m.size)
  have Hb2 := Lib.hid (hb1m.trans (hb2.mono hb1m.size))
  obtain ⟨S2, hS2⟩ : ∃ S2, w2.heap.size = S2 := ⟨_, rfl⟩
  have hKS : K < S2 := by rw [← hS2]; exact HM2.out.lt
  have HS2 := Lib.hid hS2
  clear hM1 hown2 hb2 hb1m hb1 hK hS2 H1 H2 mk
  go_wp2
  go_loopw [6, 23] (fun out ix wr => ∃ (i n : Nat) (A' : Option Addr) (c' : Nat) (F : Value → Option Value), i ≤ N ∧ ix = .int .i64 (i : Int) ∧ out = .slice A' i c' ∧ n ≤ i ∧ Below w.heap.size w wr ∧ S2 ≤ wr.heap.size ∧ wr.ownsRow w.heap.size 89 6 (.slice A2 N c2) N (recCells x) ∧ wr.ownsRow S2 89 6 (.slice A' i c') i (recCells (x.take i)) ∧ MapN 177 wr K n F ∧ ∀ m s, (∀ r ∈ x.take i, ¬ (r.mac = m ∧ r.seq = s)) → F (whoV m s) = none) (fun out ix wr => N - (intOf ix).toNat)
  case atStart => exact ⟨0, 0, none, 0, fun _ => none, by omega, rfl, rfl, by omega, Hb2.out, by rw [HS2.out]; exact Nat.le_refl _, Hown2.out, World.ownsRow_nil _ _ _ _, HM2.out, fun _ _ _ => rfl⟩
  case round =>
    obtain ⟨i, n, A', c', F, hi, rfl, rfl, hni, hbr, hsr, hsrc, hout, hM, hF⟩ := hrel
    obtain ⟨wo, rfl⟩ : ∃ wo : World, wo = wr := ⟨_, rfl⟩
    have Hbr := Lib.hid hbr
    have Hsrc := Lib.hid hsrc
    have Hout := Lib.hid hout
    have HM := Lib.hid hM
    have HF := Lib.hid hF
    clear hbr hsrc hout hM hF
    by_cases hlt : i < N
    · have hrec := recs_of_own Hsrc.out
      rw [← HN.out] at hrec
      obtain ⟨b2, o2, r, e, hr, x0, x1, x2, x3, x4, x5, _⟩ := hrec.at_ (k := i) (by rw [HN.out]; exact hlt)
      subst e
      have hokr := Hok.out r (List.mem_of_getElem? hr)
      obtain ⟨ky, hky⟩ := who_key (m := r.mac) (n := r.seq) (by have := hokr.mac; omega) (by have := hokr.seq; omega)
      have hFn := HF.out r.mac r.seq (take_key Hpw.out hr)
      have Hky := Lib.hid hky
      have HFn := Lib.hid hFn
      have Hr := Lib.hid hr
      have p0 : (i : Int) < (N : Int) := by omega
      clear hrec hr hky hFn hokr
      go_upto_region 10 with (fail)
      refine wp_name (fun V => Below wo.heap.size wo V ∧ V.heap[wo.heap.size]? = some (.cells #[.int .i64 r.mac, .int .i64 r.seq, .int .i64 r.min, .int .u8 r.kind, .int .i64 r.a, .int .i64 r.b] 89 (0, 0)) ∧ V.heap[wo.heap.size + 1]? = some (.cells #[.int .i64 r.mac, .int .i64 r.seq] 177 (0, 0))) ⟨two_belowT wo _ _, (Below.heap_alloc _ _ _ (by simp)).trans (heap_alloc_new wo _), heap_alloc2_new wo _ _⟩ (fun V hV => ?_)
      obtain ⟨hbV, hXV, hNV⟩ := hV
      clear x0 x1 x2 x3 x4 x5
      have HMV := Lib.hid (HM.out.below hbV)
      have HsV := Lib.hid (own_below Hsrc.out hbV)
      have HoV := Lib.hid (own_below Hout.out hbV)
      have HbV := Lib.hid (Hbr.out.trans (hbV.mono Hbr.out.size))
      have hsV : S2 ≤ V.heap.size := Nat.le_trans hsr hbV.size
      obtain ⟨XB, hXB⟩ : ∃ XB, wo.heap.size = XB := ⟨_, rfl⟩
      have hXS : S2 ≤ XB := by rw [← hXB]; exact hsr
      obtain ⟨NB, hNB⟩ : ∃ NB, XB + 1 = NB := ⟨_, rfl⟩
      rw [hXB] at hXV hNV
      rw [hNB] at hNV
      rw [hXB, hNB]
      have HXV := Lib.hid hXV
      have qx := box_cells hXV
      have x0 := qx 0
      have x1 := qx 1
      have x2 := qx 2
      have x3 := qx 3
      have x4 := qx 4
      have x5 := qx 5
      have qn := box_cells hNV
      have n0 := qn 0
      have n1 := qn 1
      simp only [List.getElem?_toArray, List.getElem?_cons_zero, List.getElem?_cons_succ] at x0 x1 x2 x3 x4 x5 n0 n1
      clear qx qn hXV hNV hXB hbV hNB
      go_upto_region 11 with (at_lookup; go_loud (refine wpList_look_none who_law rfl (.tmp 33) (.tmp 34) rfl Tryz.underlying174 (rec_zero _) (whoV r.mac r.seq) rfl rfl HMV.out Hky.out HFn.out ?_))
      refine wp_name (fun V1 => Below V.heap.size V V1) ((Below.refl _ _).alloc (Nat.le_refl _) _) (fun V1 hb1 => ?_)
      replace x0 := cell_below hb1 x0
      replace x1 := cell_below hb1 x1
      replace x2 := cell_below hb1 x2
      replace x3 := cell_below hb1 x3
      replace x4 := cell_below hb1 x4
      replace x5 := cell_below hb1 x5
      replace n0 := cell_below hb1 n0
      replace n1 := cell_below hb1 n1
      have HM1 := Lib.hid (HMV.out.below hb1)
      have Hs1 := Lib.hid (own_below HsV.out hb1)
      have Ho1 := Lib.hid (own_below HoV.out hb1)
      have Hb1 := Lib.hid (HbV.out.trans (hb1.mono HbV.out.size))
      have HX1 := Lib.hid ((hb1.block _ (Array.getElem?_eq_some_iff.1 HXV.out).1).trans HXV.out)
      have hs1 : S2 ≤ V1.heap.size := Nat.le_trans hsV hb1.size
      clear hb1 HMV HsV HoV HbV HXV hsV
      go_upto_region 15 with (at_mapUpdate; go_loud (refine wpList_upd_v who_law rfl (.tmp 46) (.tmp 47) (.tmp 48) rfl Tryz.underlying174 (whoV r.mac r.seq) (.agg #[.int .i64 r.mac, .int .i64 r.seq, .int .i64 r.min, .int .u8 r.kind, .int .i64 r.a, .int .i64 r.b]) rfl rfl rfl HM1.out (by simp [maxLen]; omega) Hky.out ?_); intro w5 hm5 hg5)
      have HX5 := Lib.hid ((hg5.block _ (Array.getElem?_eq_some_iff.1 HX1.out).1 (fun e => by injection e with e; omega)).trans HX1.out)
      have Hs5 := Lib.hid (Hs1.out.kept hg5 (own_not_map Hs1.out HM1.out))
      have Ho5 := Lib.hid (Ho1.out.kept hg5 (own_not_map Ho1.out HM1.out))
      have Hb5 := Lib.hid (Hb1.out.grown hg5 Hb1.out.size (fun k hk => by injection hk with hk; omega))
      have hs5 : S2 ≤ w5.heap.size := Nat.le_trans hs1 hg5.size
      have HM5 := Lib.hid hm5
      clear hm5 hg5 x0 x1 x2 x3 x4 x5 n0 n1 HX1 Hs1 Ho1 Hb1 HM1 hs1
      have qx := box_cells HX5.out
      have x0 := qx 0
      have x1 := qx 1
      have x2 := qx 2
      have x3 := qx 3
      have x4 := qx 4
      have x5 := qx 5
      simp only [List.getElem?_toArray, List.getElem?_cons_zero, List.getElem?_cons_succ] at x0 x1 x2 x3 x4 x5
      clear qx
      have hsw5 := Hb5.out.size
      go_wp2_with (at_builtin; go_loud (refine wpList_append_src _ rfl (.tmp 49) (.tmp 51) 37 rfl S2 89 i0 _ 6 48 Tryz.underlying37 hi0 hz0 hz1 hz2 rfl (by omega) _ i _ rfl (Ho5.out.alloc _) (some ⟨w5.heap.size, 0, none⟩) 1 1 (recC r) rfl (src_new w5 (recC r) 89 1 6 rfl) (by simp [recC, Value.oneCell']) (by simp [maxLen]; omega) (by omega) (by simp; omega) ?_); intro v6 w6 hown6 hg6 _; have hb6 := below_grown (Hb5.out.alloc hsw5 (.cells (recC r).toArray 89)) hg6 (by simp; omega) (Ho5.out.alloc _) (by omega); have Hb6 := Lib.hid hb6; have Hg6 := Lib.hid hg6; obtain ⟨A6, c6, rfl⟩ := own_form hown6; have Hown6 := Lib.hid hown6; clear hown6 hg6 hb6)
      go_roundw
      case rel =>
        have hg6 := Hg6.out
        refine ⟨i + 1, n + 1, A6, c6, updV F (whoV r.mac r.seq) (.agg #[.int .i64 r.mac, .int .i64 r.seq, .int .i64 r.min, .int .u8 r.kind, .int .i64 r.a, .int .i64 r.b]), by omega, by go_num, rfl, by omega, Hb6.out, ?_, ?_, ?_, ?_, ?_⟩
        · have h1 := hg6.size
          simp at h1
          omega
        · exact (Hs5.out.alloc _).kept hg6 (own_base_apart Hown2.out (by rw [HS2.out]; exact Nat.le_refl _) (Ho5.out.alloc (.cells (recC r).toArray 89)))
        · rw [List.take_add_one, Hr.out, Option.toList_some, recCells_snoc]
          exact Hown6.out
        · refine (HM5.out.below ((Below.refl _ _).alloc (Nat.le_refl _) _)).kept (hg6.block _ ?_ ?_)
          · have := HM5.out.lt
            simp
            omega
          · intro e
            have h1 := (Ho5.out.lt K e.symm).1
            omega
        · intro m s hms
          rw [updV_other]
          · exact HF.out m s (fun q hq => hms q (by rw [List.take_add_one]; exact List.mem_append_left _ hq))
          · intro e
            obtain ⟨rfl, rfl⟩ := whoV_inj e
            exact hms r (by rw [List.take_add_one, Hr.out]; simp) ⟨rfl, rfl⟩
      case measure => simp [intOf]; omega
    · obtain rfl : i = N := by omega
      have hx := Hout.out
      rw [List.take_of_length_le (by rw [HN.out]; exact Nat.le_refl _)] at hx
      have Hx := Lib.hid hx
      have hcap := own_cap hx
      have hsort : Calls Tryz.prog 72 #[.slice A' i c', .func (.func 73) #[] #[]] wo (fun e w' => e = .returned (.tuple #[]) ∧ RecsAt w' (.slice A' i c') x ∧ Below w.heap.size w w') := by
        rcases Nat.eq_zero_or_pos i with h0 | hp
        · subst h0
          have hxe : x = [] := List.eq_nil_of_length_eq_zero HN.out
          refine (sort_nil A' c' _ wo).mono ?_
          rintro e w' ⟨rfl, rfl⟩
          exact ⟨rfl, recs_of_own Hx.out, Hbr.out⟩
        · obtain ⟨g, rfl, hg0, hg1⟩ := own_some Hx.out hp
          have h := sortRec_any g c' S2 x wo (fun e => by rw [e] at HN; have := HN.out; simp at this; omega) (by rw [HN.out]; omega) Hok.out Hpw.out (by rw [HN.out]; exact hcap) (by rw [HN.out]; exact Hx.out)
          rw [HN.out] at h
          refine h.mono ?_
          rintro e w' ⟨rfl, hgr, hrec⟩
          exact ⟨rfl, hrec, Hbr.out.grown hgr Hbr.out.size (fun k hk => by injection hk with hk; omega)⟩
      have Hsort := Lib.hid hsort
      clear hx hsort
      go_wp2_with fail
      refine Hsort.out.mono ?_
      rintro e w3 ⟨rfl, hrec3, hb3⟩
      have Hrec3 := Lib.hid hrec3
      have Hb3 := Lib.hid hb3
      clear hrec3 hb3 Hsort
      go_wp2
      go_loopw [58] (fun ix wr => ∃ j : Nat, j ≤ i ∧ ix = .int .i64 (j : Int) ∧ Below w3.heap.size w3 wr) (fun ix wr => i - (intOf ix).toNat)
      case atStart => exact ⟨0, by omega, rfl, Below.refl _ _⟩
      case round =>
        obtain ⟨j, hj, rfl, hbj⟩ := hrel
        obtain ⟨wq, rfl⟩ : ∃ wq : World, wq = wr := ⟨_, rfl⟩
        by_cases hji : j < i
        · have hrec := Hrec3.out.below hbj
          rw [← HN.out] at hrec
          obtain ⟨b2, o2, r, e, hr, x0, x1, x2, x3, x4, x5, _⟩ := hrec.at_ (k := j) (by rw [HN.out]; exact hji)
          subst e
          have p0 : (j : Int) < (i : Int) := by omega
          clear hrec
          go_upto_region 21 with (fail)
          refine wp_name (fun V => Below wq.heap.size wq V ∧ V.heap[wq.heap.size]? = some (.cells #[.int .i64 r.mac, .int .i64 r.seq, .int .i64 r.min, .int .u8 r.kind, .int .i64 r.a, .int .i64 r.b] 89 (0, 0))) ⟨(Below.refl _ _).alloc (Nat.le_refl _) _, heap_alloc_new wq _⟩ (fun V hV => ?_)
          obtain ⟨hbV, hXV⟩ := hV
          clear x0 x1 x2 x3 x4 x5
          have HbV := Lib.hid (hbj.trans (hbV.mono hbj.size))
          obtain ⟨XB, hXB⟩ : ∃ XB, wq.heap.size = XB := ⟨_, rfl⟩
          rw [hXB] at hXV ⊢
          have qx := box_cells hXV
          have x0 := qx 0
          have x2 := qx 2
          simp only [List.getElem?_toArray, List.getElem?_cons_zero, List.getElem?_cons_succ] at x0 x2
          clear qx hXV hXB hbV
          by_cases hj0 : j = 0
          · have d0 : decide (0 < j) = false := by simp; omega
            clear hj0 hr x0 x2
            go_quiet (fail)
            go_wp2
            go_roundw
            case rel => exact ⟨j + 1, by omega, by go_num, below_drewN HbV.out _⟩
            case measure => simp [intOf]; omega
          · obtain ⟨k, hk⟩ : ∃ k, j = k + 1 := ⟨j - 1, by omega⟩
            have hrec := Hrec3.out.below HbV.out
            rw [← HN.out] at hrec
            obtain ⟨b3, o3, p, e, hp, y0, y1, y2, y3, y4, y5, _⟩ := hrec.at_ (k := k) (by rw [HN.out]; omega)
            cases e
            have hlt : Rlt p r := by
              obtain ⟨h1, rfl⟩ := List.getElem?_eq_some_iff.1 hp
              obtain ⟨h2, rfl⟩ := List.getElem?_eq_some_iff.1 hr
              exact List.pairwise_iff_getElem.1 Hpw.out k j h1 h2 (by omega)
            have d0 : decide (0 < j) = true := by simp; omega
            have q1 : IntKind.i64.wrap ((j : Int) - 1) = (k : Int) := by rw [IntWalk.i64_in _ (by omega)]; omega
            have q2 : (j : Int) - 1 = (k : Int) := by omega
            have q3 : (k : Int) < (i : Int) := by omega
            by_cases hm : p.mac = r.mac
            · have m1 : (p.mac == r.mac) = true := by simpa using hm
              have d1 : decide (r.min < p.min) = false := by
                rcases hlt with h | ⟨_, _, h⟩
                · omega
                · simp; omega
              clear hj0 hr hp hlt hm hrec hk y1 y3 y4 y5
              go_quiet (fail)
              go_wp2
              go_roundw
              case rel => exact ⟨j + 1, by omega, by go_num, below_drewN HbV.out _⟩
              case measure => simp [intOf]; omega
            · have m1 : (p.mac == r.mac) = false := by simpa using hm
              clear hj0 hr hp hlt hm hrec hk y1 y2 y3 y4 y5
              go_quiet (fail)
              go_wp2
              go_roundw
              case rel => exact ⟨j + 1, by omega, by go_num, below_drewN HbV.out _⟩
              case measure => simp [intOf]; omega
        · obtain rfl : j = i := by omega
          go_wp2
          go_ret2
          exact ⟨A', c', by rw [HN.out]; rfl, by rw [HN.out]; exact Hrec3.out.below hbj, Hb3.out.trans (hbj.mono Hb3.out.size)⟩
end Go.Proofs.YtckgapeednokjaaGreat
