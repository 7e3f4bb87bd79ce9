import Derived.Test.YtckgapeednokjaaGreatVc
set_option linter.unusedVariables false
set_option linter.unusedSimpArgs false
namespace Go.Proofs.YtckgapeednokjaaGreat
open Go Go.Proofs Go.RowKit

/-! ### TopKept -/
set_option maxRecDepth 100000 in
set_option maxHeartbeats 12800000 in
theorem TopKept_law (u : Value) (bits : Int) (l : List Rc) (w : World) (hl : RecsAt w u l) (hbits : 0 ≤ bits ∧ bits ≤ 18446744073709551615) : Calls Tryz.prog 3 #[u, .int .u64 bits] w (Gives w (.bool true)) := by
  obtain ⟨iI, hiI, hzI0, hzI1, hzI2⟩ := info_parts infoI
  obtain ⟨iR, hiR, hzR0, hzR1, hzR2⟩ := info_parts infoRc11
  obtain ⟨A, c, rfl, hlc, _⟩ := hl.form
  have Hl := Lib.hid hl
  clear hl
  by_cases h60 : 60 < l.length
  · have h60I : (60 : Int) < (l.length : Int) := by omega
    go_enter Tryz.func3, Tryz.ntmps3
    go_wp2_with fail
    refine (tells_any _).mono ?_
    rintro e w1 ⟨rfl, hb1⟩
    go_wp2
    go_ret
    exact ⟨rfl, hb1⟩
  · have h60I : ¬ (60 : Int) < (l.length : Int) := by omega
    have hba : Below w.heap.size w (w.alloc (.cells #[.slice A l.length c] 22)) := (Below.refl _ _).alloc (Nat.le_refl _) _
    have hcl := box_cells (heap_alloc_new w (.cells #[.slice A l.length c] 22 (0, 0))) 0
    simp only [List.getElem?_toArray, List.getElem?_cons_zero] at hcl
    have Hf := Lib.hid (FaultK_any w.heap.size 0 1 _ l _ hcl (Hl.out.below hba))
    have Hba := Lib.hid hba
    clear hcl hba
    go_enter Tryz.func3, Tryz.ntmps3
    go_wp2_with fail
    refine Hf.out.mono ?_
    rintro e w1 ⟨n, rfl, hn0, hb1⟩
    have H1 := Lib.hid (Hba.out.trans (hb1.mono Hba.out.size))
    clear hb1 Hf
    by_cases hn : n = 0
    · obtain ⟨hlen, hok⟩ := hn0 hn
      have hnb : (n != 0) = false := by simpa using hn
      have Hok := Lib.hid hok
      clear hn hok hn0
      go_wp2_with fail
      refine (Contradictory_any _ l _ (Hl.out.below H1.out)).mono ?_
      rintro e w2 ⟨b, rfl, hnc, hb2⟩
      have H2 := Lib.hid (H1.out.trans (hb2.mono H1.out.size))
      clear hb2
      cases b with
      | true =>
        go_wp2_with fail
        refine (tells_any _).mono ?_
        rintro e w3 ⟨rfl, hb3⟩
        go_wp2
        go_ret
        exact ⟨rfl, H2.out.trans (hb3.mono H2.out.size)⟩
      | false =>
        have Hnc := Lib.hid (hnc rfl)
        clear hnc
        go_wp2_with fail
        refine (Closed_any _ l _ (Hl.out.below H2.out) hlen Hnc.out Hok.out).mono ?_
        rintro e w3 ⟨F, A5, c5, hlog, rfl, hown5, hb3⟩
        have H3 := Lib.hid (H2.out.trans (hb3.mono H2.out.size))
        have hokF : ∀ r ∈ F, RcOk r := fun r hr => Hok.out r (hlog.mem r hr)
        have hF60 : F.length ≤ 60 := Nat.le_trans hlog.len hlen
        have HF := Lib.hid (And.intro hokF (And.intro hF60 hlog.pw))
        obtain ⟨C, hC⟩ : ∃ C, closeL none 0 0 F = C := ⟨_, rfl⟩
        have hokC : ∀ r ∈ C, RcOk r := by rw [← hC]; exact close_ok hokF hF60
        have hpwC : C.Pairwise Rlt := by rw [← hC]; exact close_sorted hlog.pw
        have hlenC : C.length = F.length := by rw [← hC, close_len]
        obtain ⟨N, hN⟩ : ∃ N, F.length = N := ⟨_, rfl⟩
        rw [hN] at hlenC hF60 hown5
        rw [hC] at hown5
        rw [hN]
        have hrec := recs_of_own hown5
        have HC := Lib.hid hC
        have HokC := Lib.hid hokC
        have HpwC := Lib.hid hpwC
        have HlenC := Lib.hid hlenC
        have HN := Lib.hid hN
        have Hrec := Lib.hid hrec
        have hcb : 0 ≤ coinF C ∧ coinF C ≤ 36000000 := by rw [← hC]; exact coin_bd hokF HF.out.2.1 hlog.pw
        clear hb3 hlog hokF hC hokC hpwC hlenC hN hrec hown5 Hnc Hok Hl hlen h60 h60I Hba H1 H2 hlc hnb
        obtain ⟨p, hp⟩ : ∃ p : Nat → Bool, p = bitP bits := ⟨_, rfl⟩
        obtain ⟨B3, hB3⟩ : ∃ B3, w3.heap.size = B3 := ⟨_, rfl⟩
        have HB3 := Lib.hid hB3
        go_wp2
        go_loopw [6, 7, 8, 9, 10] (fun ms sa le co ix wr => ∃ (i : Nat) (A6 A7 A8 : Option Addr) (c6 c7 c8 : Nat), i ≤ N ∧ ix = .int .i64 (i : Int) ∧ ms = .slice A6 (macsL none (C.take i)).length c6 ∧ sa = .slice A7 (macsL none (C.take i)).length c7 ∧ le = .slice A8 (keepL p 0 (C.take i)).length c8 ∧ co = .int .i64 (coinF C - coinF (C.drop i)) ∧ Below B3 w3 wr ∧ wr.ownsRow B3 3 1 (.slice A6 (macsL none (C.take i)).length c6) (macsL none (C.take i)).length ((macsL none (C.take i)).map (.int .i64)) ∧ wr.ownsRow B3 3 1 (.slice A7 (macsL none (C.take i)).length c7) (macsL none (C.take i)).length ((List.replicate (macsL none (C.take i)).length (0 : Int)).map (.int .i64)) ∧ wr.ownsRow B3 31 6 (.slice A8 (keepL p 0 (C.take i)).length c8) (keepL p 0 (C.take i)).length (recCells (keepL p 0 (C.take i))) ∧ ApartD (.slice A6 (macsL none (C.take i)).length c6) (.slice A7 (macsL none (C.take i)).length c7)) (fun ms sa le co ix wr => N - (intOf ix).toNat)
        case atStart => exact ⟨0, none, none, none, 0, 0, 0, by omega, rfl, rfl, rfl, rfl, by simp, Below.refl _ _, World.ownsRow_nil _ _ _ _, World.ownsRow_nil _ _ _ _, World.ownsRow_nil _ _ _ _, .inl rfl⟩
        case round =>
          obtain ⟨i, A6, A7, A8, c6, c7, c8, hi, rfl, rfl, rfl, rfl, rfl, hbr, hm, hs, hle, hap⟩ := hrel
          obtain ⟨wo, rfl⟩ : ∃ wo : World, wo = wr := ⟨_, rfl⟩
          have Hbr := Lib.hid hbr
          have Hm := Lib.hid hm
          have Hs := Lib.hid hs
          have Hle := Lib.hid hle
          have Hap := Lib.hid hap
          clear hbr hm hs hle hap
          by_cases hlt : i < N
          · have hrec := Hrec.out.below (by rw [HB3.out]; exact Hbr.out)
            rw [← HlenC.out] at hrec
            obtain ⟨b2, o2, r, e, hr, x0, x1, x2, x3, x4, x5, _⟩ := hrec.at_ (k := i) (by rw [HlenC.out]; exact hlt)
            subst e
            have p0 : (i : Int) < (N : Int) := by omega
            have htk : C.take (i + 1) = C.take i ++ [r] := by rw [List.take_add_one, hr]; rfl
            obtain ⟨M, hM⟩ : ∃ M, macsL none (C.take i) = M := ⟨_, rfl⟩
            obtain ⟨M1, hM1⟩ : ∃ M1, macsL none (C.take (i + 1)) = M1 := ⟨_, rfl⟩
            obtain ⟨L, hL⟩ : ∃ L, keepL p 0 (C.take i) = L := ⟨_, rfl⟩
            have hMM : M1 = M ++ if lastMac none (C.take i) = some r.mac then [] else [r.mac] := by rw [← hM1, htk, macs_snoc, hM]
            have hlti : (C.take i).length = i := by rw [List.length_take, HlenC.out]; omega
            have hLL : keepL p 0 (C.take (i + 1)) = L ++ if r.kind ≠ 0 ∨ p i = true then [r] else [] := by rw [htk, keep_snoc, hL, hlti, Nat.zero_add]
            have hcod := coin_drop hr
            have HMM := Lib.hid hMM
            have HM1 := Lib.hid hM1
            have HL1 := Lib.hid hLL
            have Hcod := Lib.hid hcod
            have Hr := Lib.hid hr
            have hMlen : M.length ≤ 60 := by
              have h1 := macs_len (C.take i) none
              rw [hM, hlti] at h1
              omega
            have hLlen : L.length ≤ 60 := by
              have h1 := (keep_sub p (C.take i) 0).length_le
              rw [hL, hlti] at h1
              omega
            have hokr := HokC.out r (List.mem_of_getElem? hr)
            have hcd : 0 ≤ coinF (C.drop i) ∧ 0 ≤ coinF (C.drop (i + 1)) := ⟨coinF_nonneg fun s hs => HokC.out s (List.mem_of_mem_drop hs), coinF_nonneg fun s hs => HokC.out s (List.mem_of_mem_drop hs)⟩
            have hcd2 : coinF (C.drop (i + 1)) ≤ coinF (C.drop i) := by
              rw [Hcod.out]
              have hk := hokr.kind
              split
              · rcases hk with hk | hk | hk <;> omega
              · omega
            have hcd3 : coinF (C.drop i) ≤ coinF C := coinF_drop HokC.out i
            rw [hM] at Hm Hs Hap ⊢
            rw [hL] at Hle ⊢
            clear hr htk hM1 hMM hlti hLL hcod hM hL hrec
            go_upto_region 11 with (fail)
            refine wp_name (fun V => Below wo.heap.size wo V ∧ V.heap[wo.heap.size]? = some (.cells #[.int .i64 r.mac, .int .i64 r.seq, .int .i64 r.min, .int .u8 r.kind, .int .i64 r.a, .int .i64 r.b] 31 (0, 0))) ⟨(Below.refl _ _).alloc (Nat.le_refl _) _, heap_alloc_new wo _⟩ (fun V hV => ?_)
            obtain ⟨hbV, hXV⟩ := hV
            have hBo : B3 ≤ wo.heap.size := by have := Hbr.out.size; have := HB3.out; omega
            have HB1 := Lib.hid (Hbr.out.trans (hbV.mono hBo))
            have K6 := Lib.hid (own_below Hm.out hbV)
            have K7 := Lib.hid (own_below Hs.out hbV)
            have K8 := Lib.hid (own_below Hle.out hbV)
            have hBV : B3 ≤ V.heap.size := Nat.le_trans hBo hbV.size
            obtain ⟨XB, hXB⟩ : ∃ XB, wo.heap.size = XB := ⟨_, rfl⟩
            rw [hXB] at hXV ⊢
            have HX1 := Lib.hid hXV
            clear hbV hXV hXB Hbr Hm Hs Hle x0 x1 x2 x3 x4 x5 hBo
            by_cases hi0 : i = 0
            · have hlm : lastMac none (C.take i) = none := by rw [hi0]; rfl
              have hMe : M1 = M ++ [r.mac] := by rw [HMM.out, hlm, if_neg (fun h => by cases h)]
              have e0 : decide (i = 0) = true := by simpa using hi0
              have e1 : (i == 0) = true := by simpa using hi0
              have e2 : ((i : Int) == 0) = true := by simp [hi0]
              have HMe := Lib.hid hMe
              clear hlm hMe hi0
              go_quiet (fail)
              clear e0 e1 e2
              go_upto_region 12 with (fail)
              refine wp_name (fun V2 => Below B3 w3 V2 ∧ B3 ≤ V2.heap.size ∧ V2.ownsRow B3 3 1 (.slice A6 M.length c6) M.length (M.map (.int .i64)) ∧ V2.ownsRow B3 3 1 (.slice A7 M.length c7) M.length ((List.replicate M.length (0 : Int)).map (.int .i64)) ∧ V2.ownsRow B3 31 6 (.slice A8 L.length c8) L.length (recCells L) ∧ V2.heap[XB]? = some (.cells #[.int .i64 r.mac, .int .i64 r.seq, .int .i64 r.min, .int .u8 r.kind, .int .i64 r.a, .int .i64 r.b] 31 (0, 0))) ⟨below_drewN HB1.out _, hBV, own_below K6.out (below_drewN (Below.refl _ _) _), own_below K7.out (below_drewN (Below.refl _ _) _), own_below K8.out (below_drewN (Below.refl _ _) _), HX1.out⟩ (fun V2 hV2 => ?_)
              obtain ⟨hb2, hs2, k6, k7, k8, kx⟩ := hV2
              have hlM1 : M1.length = M.length + 1 := by rw [HMe.out]; simp
              have hrep : (List.replicate M1.length (0 : Int)).map (Value.int .i64) = (List.replicate M.length (0 : Int)).map (Value.int .i64) ++ [.int .i64 0] := by rw [hlM1, List.replicate_succ', List.map_append]; rfl
              have hmap : M1.map (Value.int .i64) = M.map (Value.int .i64) ++ [.int .i64 r.mac] := by rw [HMe.out, List.map_append]; rfl
              have HlM := Lib.hid hlM1
              have Hrep := Lib.hid hrep
              have Hmap := Lib.hid hmap
              have x0 := box_cells kx 0
              simp only [List.getElem?_toArray, List.getElem?_cons_zero] at x0
              clear hlM1 hrep hmap
              go_upto_region 13 with (first
                | (at_builtin; go_loud (refine wpList_append_src _ rfl (.tmp 66) (.tmp 69) 29 rfl B3 3 iI _ 1 8 Tryz.underlying29 hiI hzI0 hzI1 hzI2 rfl (by omega) _ M.length _ rfl (k6.alloc _) (some ⟨V2.heap.size, 0, none⟩) 1 1 [.int .i64 r.mac] rfl (src_new V2 [.int .i64 r.mac] 3 1 1 rfl) (by simp [Value.oneCell']) (by simp [maxLen] <;> omega) (by omega) (by simp <;> omega) ?_; intro v20 w20 o20 g20 a20; have b20 := below_grown (hb2.alloc hs2 (.cells #[.int .i64 r.mac] 3)) g20 (by simp <;> omega) (k6.alloc _) (Nat.le_refl _); have p7 := (k7.alloc (.cells #[.int .i64 r.mac] 3)).kept g20 Hap.out.symm; have p8 := (k8.alloc (.cells #[.int .i64 r.mac] 3)).kept g20 (own_apart (k8.alloc _) (k6.alloc (.cells #[.int .i64 r.mac] 3)) (by decide)); have px := own_type_kept (k6.alloc (.cells #[.int .i64 r.mac] 3)) g20 ((Below.heap_alloc _ _ _ (Array.getElem?_eq_some_iff.1 kx).1).trans kx) (by decide); have ap20 := ApartD.app Hap.out a20 (k7.alloc _); have s20 : B3 ≤ w20.heap.size := Nat.le_trans hs2 (Nat.le_trans (((Below.refl _ V2).alloc (Nat.le_refl _) (.cells #[.int .i64 r.mac] 3)).size) g20.size); obtain ⟨A20, c20, rfl⟩ := own_form o20; clear x0))
                | (at_builtin; go_loud (refine wpList_append_src _ rfl (.tmp 71) (.tmp 72) 29 rfl B3 3 iI _ 1 8 Tryz.underlying29 hiI hzI0 hzI1 hzI2 rfl (by omega) _ M.length _ rfl (p7.alloc _) (some ⟨w20.heap.size, 0, none⟩) 1 1 [.int .i64 0] rfl (src_new w20 [.int .i64 0] 3 1 1 rfl) (by simp [Value.oneCell']) (by simp [maxLen] <;> omega) (by omega) (by simp <;> omega) ?_); intro v21 w21 o21 g21 a21; have b21 := below_grown (b20.alloc s20 (.cells #[.int .i64 0] 3)) g21 (by simp <;> omega) (p7.alloc _) (Nat.le_refl _); have r6 := (o20.alloc (.cells #[.int .i64 0] 3)).kept g21 ap20; have r8 := (p8.alloc (.cells #[.int .i64 0] 3)).kept g21 (own_apart (p8.alloc _) (p7.alloc (.cells #[.int .i64 0] 3)) (by decide)); have rx := own_type_kept (p7.alloc (.cells #[.int .i64 0] 3)) g21 ((Below.heap_alloc _ _ _ (Array.getElem?_eq_some_iff.1 px).1).trans px) (by decide); have ap21 := (ApartD.app ap20.symm a21 (o20.alloc _)).symm; obtain ⟨A21, c21, rfl⟩ := own_form o21))
              rw [← HlM.out, ← Hmap.out] at r6
              rw [← HlM.out, ← Hrep.out] at o21
              rw [← HlM.out] at ap21 ⊢
              refine wp_name (fun VV => (Below B3 w3 VV ∧ VV.ownsRow B3 3 1 (.slice A20 M1.length c20) M1.length (M1.map (.int .i64)) ∧ VV.ownsRow B3 3 1 (.slice A21 M1.length c21) M1.length ((List.replicate M1.length (0 : Int)).map (.int .i64)) ∧ VV.ownsRow B3 31 6 (.slice A8 L.length c8) L.length (recCells L) ∧ ApartD (.slice A20 M1.length c20) (.slice A21 M1.length c21) ∧ VV.heap[XB]? = some (.cells #[.int .i64 r.mac, .int .i64 r.seq, .int .i64 r.min, .int .u8 r.kind, .int .i64 r.a, .int .i64 r.b] 31 (0, 0)))) ⟨b21, r6, o21, r8, ap21, rx⟩ (fun VV hV => ?_)
              obtain ⟨qb, q6, q7, q8, qa, qx⟩ := hV
              have HB := Lib.hid qb
              have H6 := Lib.hid q6
              have H7 := Lib.hid q7
              have H8 := Lib.hid q8
              have HA := Lib.hid qa
              have HX := Lib.hid qx
              clear qb q6 q7 q8 qa qx
              have gx := box_cells HX.out
              have x0 := gx 0
              have x1 := gx 1
              have x2 := gx 2
              have x3 := gx 3
              have x4 := gx 4
              have x5 := gx 5
              simp only [List.getElem?_toArray, List.getElem?_cons_zero, List.getElem?_cons_succ] at x0 x1 x2 x3 x4 x5
              clear gx
              by_cases k0 : r.kind = 0
              · have k2b : (r.kind == 2) = false := by rw [k0]; rfl
                have k0b : (r.kind != 0) = false := by simp [k0]
                have Hco := Lib.hid (show coinF C - coinF (C.drop (i + 1)) = coinF C - coinF (C.drop i) by rw [Hcod.out, if_neg (fun h => by omega), Int.zero_add])
                have K0 := Lib.hid k0
                clear k0
                by_cases hbit : ((bits / 2 ^ (i % 64)).tmod 2 == 0) = true
                · have HKP := Lib.hid (show r.kind ≠ 0 ∨ p i = true from .inr (by rw [hp]; exact hbit))
                  go_quiet (fail)
                  go_upto_region 16 with (fail)
                  refine wp_name (fun VX => (Below B3 w3 VX ∧ VX.ownsRow B3 3 1 (.slice A20 M1.length c20) M1.length (M1.map (.int .i64)) ∧ VX.ownsRow B3 3 1 (.slice A21 M1.length c21) M1.length ((List.replicate M1.length (0 : Int)).map (.int .i64)) ∧ VX.ownsRow B3 31 6 (.slice A8 L.length c8) L.length (recCells L) ∧ ApartD (.slice A20 M1.length c20) (.slice A21 M1.length c21) ∧ VX.heap[XB]? = some (.cells #[.int .i64 r.mac, .int .i64 r.seq, .int .i64 r.min, .int .u8 r.kind, .int .i64 r.a, .int .i64 r.b] 31 (0, 0)))) ⟨below_drewN HB.out _, own_below H6.out (below_drewN (Below.refl _ _) _), own_below H7.out (below_drewN (Below.refl _ _) _), own_below H8.out (below_drewN (Below.refl _ _) _), HA.out, HX.out⟩ (fun VX hV => ?_)
                  clear x0 x1 x2 x3 x4 x5
                  obtain ⟨qb, q6, q7, q8, qa, qx⟩ := hV
                  have HB := Lib.hid qb
                  have H6 := Lib.hid q6
                  have H7 := Lib.hid q7
                  have H8 := Lib.hid q8
                  have HA := Lib.hid qa
                  have HX := Lib.hid qx
                  clear qb q6 q7 q8 qa qx
                  have gx := box_cells HX.out
                  have x0 := gx 0
                  have x1 := gx 1
                  have x2 := gx 2
                  have x3 := gx 3
                  have x4 := gx 4
                  have x5 := gx 5
                  simp only [List.getElem?_toArray, List.getElem?_cons_zero, List.getElem?_cons_succ] at x0 x1 x2 x3 x4 x5
                  clear gx
                  go_wp2_with (at_builtin; go_loud (refine wpList_append_src _ rfl (.tmp 111) (.tmp 113) 22 rfl B3 31 iR _ 6 48 Tryz.underlying22 hiR hzR0 hzR1 hzR2 rfl (by omega) _ L.length _ rfl (H8.out.alloc _) (some ⟨VX.heap.size, 0, none⟩) 1 1 (recC r) rfl (src_new VX (recC r) 31 1 6 rfl) (by simp [recC, Value.oneCell']) (by simp [maxLen] <;> omega) (by omega) (by have := HB.out.size; have := HB3.out; simp; omega) ?_); intro v9 w9 hown9 hg9 hat9; have hb9 := below_grown (HB.out.alloc (by have := HB.out.size; have := HB3.out; omega) (.cells (recC r).toArray 31)) hg9 (by have := HB.out.size; have := HB3.out; simp; omega) (H8.out.alloc _) (Nat.le_refl _); have o6 := (H6.out.alloc (.cells (recC r).toArray 31)).kept hg9 (own_apart (H6.out.alloc _) (H8.out.alloc (.cells (recC r).toArray 31)) (by decide)); have o7 := (H7.out.alloc (.cells (recC r).toArray 31)).kept hg9 (own_apart (H7.out.alloc _) (H8.out.alloc (.cells (recC r).toArray 31)) (by decide)); obtain ⟨A9, c9, rfl⟩ := own_form hown9; have HW6 := Lib.hid o6; have HW7 := Lib.hid o7; have HW8 := Lib.hid hown9; have HB9 := Lib.hid hb9; clear hown9 hg9 hat9 hb9 o6 o7)
                  clear x0 x1 x2 x3 x4 x5
                  go_roundw
                  case rel =>
                    refine ⟨i + 1, A20, A21, A9, c20, c21, c9, by omega, by go_num, by rw [HM1.out], by rw [HM1.out], by rw [HL1.out, if_pos HKP.out]; first | rfl | simp, by rw [Hco.out], HB9.out, ?_, ?_, ?_, ?_⟩
                    · rw [HM1.out]; exact HW6.out
                    · rw [HM1.out]; exact HW7.out
                    · rw [HL1.out, if_pos HKP.out]; exact by rw [List.length_append, recCells_snoc]; exact HW8.out
                    · rw [HM1.out]; exact HA.out
                  case measure => simp [intOf]; omega
                · have hbit2 : ((bits / 2 ^ (i % 64)).tmod 2 == 0) = false := by simpa using hbit
                  have HKP := Lib.hid (show ¬ (r.kind ≠ 0 ∨ p i = true) from fun h => by
                    rcases h with h | h
                    · exact h K0.out
                    · rw [hp] at h; exact hbit h)
                  clear hbit
                  go_quiet (fail)
                  go_upto_region 9 with (fail)
                  refine wp_name (fun VX => (Below B3 w3 VX ∧ VX.ownsRow B3 3 1 (.slice A20 M1.length c20) M1.length (M1.map (.int .i64)) ∧ VX.ownsRow B3 3 1 (.slice A21 M1.length c21) M1.length ((List.replicate M1.length (0 : Int)).map (.int .i64)) ∧ VX.ownsRow B3 31 6 (.slice A8 L.length c8) L.length (recCells L) ∧ ApartD (.slice A20 M1.length c20) (.slice A21 M1.length c21) ∧ VX.heap[XB]? = some (.cells #[.int .i64 r.mac, .int .i64 r.seq, .int .i64 r.min, .int .u8 r.kind, .int .i64 r.a, .int .i64 r.b] 31 (0, 0)))) ⟨below_drewN HB.out _, own_below H6.out (below_drewN (Below.refl _ _) _), own_below H7.out (below_drewN (Below.refl _ _) _), own_below H8.out (below_drewN (Below.refl _ _) _), HA.out, HX.out⟩ (fun VX hV => ?_)
                  clear x0 x1 x2 x3 x4 x5
                  obtain ⟨qb, q6, q7, q8, qa, qx⟩ := hV
                  have HB := Lib.hid qb
                  have H6 := Lib.hid q6
                  have H7 := Lib.hid q7
                  have H8 := Lib.hid q8
                  have HA := Lib.hid qa
                  have HX := Lib.hid qx
                  clear qb q6 q7 q8 qa qx
                  have gx := box_cells HX.out
                  have x0 := gx 0
                  have x1 := gx 1
                  have x2 := gx 2
                  have x3 := gx 3
                  have x4 := gx 4
                  have x5 := gx 5
                  simp only [List.getElem?_toArray, List.getElem?_cons_zero, List.getElem?_cons_succ] at x0 x1 x2 x3 x4 x5
                  clear gx
                  clear x0 x1 x2 x3 x4 x5
                  go_wp2
                  go_roundw
                  case rel => exact ⟨i + 1, A20, A21, A8, c20, c21, c8, by omega, by go_num, by rw [HM1.out], by rw [HM1.out], by rw [HL1.out, if_neg HKP.out, List.append_nil], by rw [Hco.out], HB.out, by rw [HM1.out]; exact H6.out, by rw [HM1.out]; exact H7.out, by rw [HL1.out, if_neg HKP.out, List.append_nil]; exact H8.out, by rw [HM1.out]; exact HA.out⟩
                  case measure => simp [intOf]; omega
              · have k0b : (r.kind != 0) = true := by simpa using k0
                have HKP := Lib.hid (show r.kind ≠ 0 ∨ p i = true from .inl k0)
                by_cases k2 : r.kind = 2
                · have k2b : (r.kind == 2) = true := by simpa using k2
                  have hbb : 0 ≤ r.b ∧ r.b ≤ 10000000 := by rcases hokr.kind with h | h | h <;> omega
                  have K2 := Lib.hid k2
                  clear k0 k2
                  by_cases hlast : i + 1 = N
                  · have hn : C[i + 1]? = none := List.getElem?_eq_none (by rw [HlenC.out]; omega)
                    have Hco := Lib.hid (show coinF C - coinF (C.drop (i + 1)) = coinF C - coinF (C.drop i) + r.b by rw [Hcod.out, hn, if_pos ⟨K2.out, by simp⟩]; omega)
                    have q1 : IntKind.i64.wrap ((N : Int) - 1) = (i : Int) := by rw [IntWalk.i64_in _ (by omega)]; omega
                    have q2 : (N : Int) - 1 = (i : Int) := by omega
                    have q3 : ((i : Int) == (i : Int)) = true := by simp
                    clear hn hlast
                    go_quiet (fail)
                    go_upto_region 16 with (fail)
                    refine wp_name (fun VX => (Below B3 w3 VX ∧ VX.ownsRow B3 3 1 (.slice A20 M1.length c20) M1.length (M1.map (.int .i64)) ∧ VX.ownsRow B3 3 1 (.slice A21 M1.length c21) M1.length ((List.replicate M1.length (0 : Int)).map (.int .i64)) ∧ VX.ownsRow B3 31 6 (.slice A8 L.length c8) L.length (recCells L) ∧ ApartD (.slice A20 M1.length c20) (.slice A21 M1.length c21) ∧ VX.heap[XB]? = some (.cells #[.int .i64 r.mac, .int .i64 r.seq, .int .i64 r.min, .int .u8 r.kind, .int .i64 r.a, .int .i64 r.b] 31 (0, 0)))) ⟨below_drewN HB.out _, own_below H6.out (below_drewN (Below.refl _ _) _), own_below H7.out (below_drewN (Below.refl _ _) _), own_below H8.out (below_drewN (Below.refl _ _) _), HA.out, HX.out⟩ (fun VX hV => ?_)
                    clear x0 x1 x2 x3 x4 x5
                    obtain ⟨qb, q6, q7, q8, qa, qx⟩ := hV
                    have HB := Lib.hid qb
                    have H6 := Lib.hid q6
                    have H7 := Lib.hid q7
                    have H8 := Lib.hid q8
                    have HA := Lib.hid qa
                    have HX := Lib.hid qx
                    clear qb q6 q7 q8 qa qx
                    have gx := box_cells HX.out
                    have x0 := gx 0
                    have x1 := gx 1
                    have x2 := gx 2
                    have x3 := gx 3
                    have x4 := gx 4
                    have x5 := gx 5
                    simp only [List.getElem?_toArray, List.getElem?_cons_zero, List.getElem?_cons_succ] at x0 x1 x2 x3 x4 x5
                    clear gx
                    go_wp2_with (at_builtin; go_loud (refine wpList_append_src _ rfl (.tmp 111) (.tmp 113) 22 rfl B3 31 iR _ 6 48 Tryz.underlying22 hiR hzR0 hzR1 hzR2 rfl (by omega) _ L.length _ rfl (H8.out.alloc _) (some ⟨VX.heap.size, 0, none⟩) 1 1 (recC r) rfl (src_new VX (recC r) 31 1 6 rfl) (by simp [recC, Value.oneCell']) (by simp [maxLen] <;> omega) (by omega) (by have := HB.out.size; have := HB3.out; simp; omega) ?_); intro v9 w9 hown9 hg9 hat9; have hb9 := below_grown (HB.out.alloc (by have := HB.out.size; have := HB3.out; omega) (.cells (recC r).toArray 31)) hg9 (by have := HB.out.size; have := HB3.out; simp; omega) (H8.out.alloc _) (Nat.le_refl _); have o6 := (H6.out.alloc (.cells (recC r).toArray 31)).kept hg9 (own_apart (H6.out.alloc _) (H8.out.alloc (.cells (recC r).toArray 31)) (by decide)); have o7 := (H7.out.alloc (.cells (recC r).toArray 31)).kept hg9 (own_apart (H7.out.alloc _) (H8.out.alloc (.cells (recC r).toArray 31)) (by decide)); obtain ⟨A9, c9, rfl⟩ := own_form hown9; have HW6 := Lib.hid o6; have HW7 := Lib.hid o7; have HW8 := Lib.hid hown9; have HB9 := Lib.hid hb9; clear hown9 hg9 hat9 hb9 o6 o7)
                    clear x0 x1 x2 x3 x4 x5
                    go_roundw
                    case rel =>
                      refine ⟨i + 1, A20, A21, A9, c20, c21, c9, by omega, by go_num, by rw [HM1.out], by rw [HM1.out], by rw [HL1.out, if_pos HKP.out]; first | rfl | simp, by rw [Hco.out], HB9.out, ?_, ?_, ?_, ?_⟩
                      · rw [HM1.out]; exact HW6.out
                      · rw [HM1.out]; exact HW7.out
                      · rw [HL1.out, if_pos HKP.out]; exact by rw [List.length_append, recCells_snoc]; exact HW8.out
                      · rw [HM1.out]; exact HA.out
                    case measure => simp [intOf]; omega
                  · have hrec := Hrec.out.below (by rw [HB3.out]; exact HB.out)
                    rw [← HlenC.out] at hrec
                    obtain ⟨b4, o4, z, e, hz, z0, z1, z2, z3, z4, z5, _⟩ := hrec.at_ (k := i + 1) (by rw [HlenC.out]; omega)
                    cases e
                    have q2 : (N : Int) - 1 ≠ (i : Int) := by omega
                    have q3 : ((i : Int) == (N : Int) - 1) = false := by simp; omega
                    have q4 : IntKind.i64.wrap ((i : Int) + 1) = ((i + 1 : Nat) : Int) := by rw [IntWalk.i64_in _ (by omega)]; omega
                    have q5 : ((i + 1 : Nat) : Int) < (N : Int) := by omega
                    clear hrec hlast z1 z2 z3 z4 z5
                    by_cases hzm : z.mac = r.mac
                    · have m1 : (z.mac != r.mac) = false := by simp [hzm]
                      have Hco := Lib.hid (show coinF C - coinF (C.drop (i + 1)) = coinF C - coinF (C.drop i) by rw [Hcod.out, hz, if_neg (fun h => h.2 (by simp [hzm])), Int.zero_add])
                      clear hz hzm
                      go_quiet (fail)
                      go_upto_region 16 with (fail)
                      refine wp_name (fun VX => (Below B3 w3 VX ∧ VX.ownsRow B3 3 1 (.slice A20 M1.length c20) M1.length (M1.map (.int .i64)) ∧ VX.ownsRow B3 3 1 (.slice A21 M1.length c21) M1.length ((List.replicate M1.length (0 : Int)).map (.int .i64)) ∧ VX.ownsRow B3 31 6 (.slice A8 L.length c8) L.length (recCells L) ∧ ApartD (.slice A20 M1.length c20) (.slice A21 M1.length c21) ∧ VX.heap[XB]? = some (.cells #[.int .i64 r.mac, .int .i64 r.seq, .int .i64 r.min, .int .u8 r.kind, .int .i64 r.a, .int .i64 r.b] 31 (0, 0)))) ⟨below_drewN HB.out _, own_below H6.out (below_drewN (Below.refl _ _) _), own_below H7.out (below_drewN (Below.refl _ _) _), own_below H8.out (below_drewN (Below.refl _ _) _), HA.out, HX.out⟩ (fun VX hV => ?_)
                      clear x0 x1 x2 x3 x4 x5
                      obtain ⟨qb, q6, q7, q8, qa, qx⟩ := hV
                      have HB := Lib.hid qb
                      have H6 := Lib.hid q6
                      have H7 := Lib.hid q7
                      have H8 := Lib.hid q8
                      have HA := Lib.hid qa
                      have HX := Lib.hid qx
                      clear qb q6 q7 q8 qa qx
                      have gx := box_cells HX.out
                      have x0 := gx 0
                      have x1 := gx 1
                      have x2 := gx 2
                      have x3 := gx 3
                      have x4 := gx 4
                      have x5 := gx 5
                      simp only [List.getElem?_toArray, List.getElem?_cons_zero, List.getElem?_cons_succ] at x0 x1 x2 x3 x4 x5
                      clear gx
                      go_wp2_with (at_builtin; go_loud (refine wpList_append_src _ rfl (.tmp 111) (.tmp 113) 22 rfl B3 31 iR _ 6 48 Tryz.underlying22 hiR hzR0 hzR1 hzR2 rfl (by omega) _ L.length _ rfl (H8.out.alloc _) (some ⟨VX.heap.size, 0, none⟩) 1 1 (recC r) rfl (src_new VX (recC r) 31 1 6 rfl) (by simp [recC, Value.oneCell']) (by simp [maxLen] <;> omega) (by omega) (by have := HB.out.size; have := HB3.out; simp; omega) ?_); intro v9 w9 hown9 hg9 hat9; have hb9 := below_grown (HB.out.alloc (by have := HB.out.size; have := HB3.out; omega) (.cells (recC r).toArray 31)) hg9 (by have := HB.out.size; have := HB3.out; simp; omega) (H8.out.alloc _) (Nat.le_refl _); have o6 := (H6.out.alloc (.cells (recC r).toArray 31)).kept hg9 (own_apart (H6.out.alloc _) (H8.out.alloc (.cells (recC r).toArray 31)) (by decide)); have o7 := (H7.out.alloc (.cells (recC r).toArray 31)).kept hg9 (own_apart (H7.out.alloc _) (H8.out.alloc (.cells (recC r).toArray 31)) (by decide)); obtain ⟨A9, c9, rfl⟩ := own_form hown9; have HW6 := Lib.hid o6; have HW7 := Lib.hid o7; have HW8 := Lib.hid hown9; have HB9 := Lib.hid hb9; clear hown9 hg9 hat9 hb9 o6 o7)
                      clear x0 x1 x2 x3 x4 x5
                      go_roundw
                      case rel =>
                        refine ⟨i + 1, A20, A21, A9, c20, c21, c9, by omega, by go_num, by rw [HM1.out], by rw [HM1.out], by rw [HL1.out, if_pos HKP.out]; first | rfl | simp, by rw [Hco.out], HB9.out, ?_, ?_, ?_, ?_⟩
                        · rw [HM1.out]; exact HW6.out
                        · rw [HM1.out]; exact HW7.out
                        · rw [HL1.out, if_pos HKP.out]; exact by rw [List.length_append, recCells_snoc]; exact HW8.out
                        · rw [HM1.out]; exact HA.out
                      case measure => simp [intOf]; omega
                    · have m1 : (z.mac != r.mac) = true := by simpa using hzm
                      have Hco := Lib.hid (show coinF C - coinF (C.drop (i + 1)) = coinF C - coinF (C.drop i) + r.b by rw [Hcod.out, hz, if_pos ⟨K2.out, fun h => hzm (by simpa using h)⟩]; omega)
                      clear hz hzm
                      go_quiet (fail)
                      go_upto_region 16 with (fail)
                      refine wp_name (fun VX => (Below B3 w3 VX ∧ VX.ownsRow B3 3 1 (.slice A20 M1.length c20) M1.length (M1.map (.int .i64)) ∧ VX.ownsRow B3 3 1 (.slice A21 M1.length c21) M1.length ((List.replicate M1.length (0 : Int)).map (.int .i64)) ∧ VX.ownsRow B3 31 6 (.slice A8 L.length c8) L.length (recCells L) ∧ ApartD (.slice A20 M1.length c20) (.slice A21 M1.length c21) ∧ VX.heap[XB]? = some (.cells #[.int .i64 r.mac, .int .i64 r.seq, .int .i64 r.min, .int .u8 r.kind, .int .i64 r.a, .int .i64 r.b] 31 (0, 0)))) ⟨below_drewN HB.out _, own_below H6.out (below_drewN (Below.refl _ _) _), own_below H7.out (below_drewN (Below.refl _ _) _), own_below H8.out (below_drewN (Below.refl _ _) _), HA.out, HX.out⟩ (fun VX hV => ?_)
                      clear x0 x1 x2 x3 x4 x5
                      obtain ⟨qb, q6, q7, q8, qa, qx⟩ := hV
                      have HB := Lib.hid qb
                      have H6 := Lib.hid q6
                      have H7 := Lib.hid q7
                      have H8 := Lib.hid q8
                      have HA := Lib.hid qa
                      have HX := Lib.hid qx
                      clear qb q6 q7 q8 qa qx
                      have gx := box_cells HX.out
                      have x0 := gx 0
                      have x1 := gx 1
                      have x2 := gx 2
                      have x3 := gx 3
                      have x4 := gx 4
                      have x5 := gx 5
                      simp only [List.getElem?_toArray, List.getElem?_cons_zero, List.getElem?_cons_succ] at x0 x1 x2 x3 x4 x5
                      clear gx
                      go_wp2_with (at_builtin; go_loud (refine wpList_append_src _ rfl (.tmp 111) (.tmp 113) 22 rfl B3 31 iR _ 6 48 Tryz.underlying22 hiR hzR0 hzR1 hzR2 rfl (by omega) _ L.length _ rfl (H8.out.alloc _) (some ⟨VX.heap.size, 0, none⟩) 1 1 (recC r) rfl (src_new VX (recC r) 31 1 6 rfl) (by simp [recC, Value.oneCell']) (by simp [maxLen] <;> omega) (by omega) (by have := HB.out.size; have := HB3.out; simp; omega) ?_); intro v9 w9 hown9 hg9 hat9; have hb9 := below_grown (HB.out.alloc (by have := HB.out.size; have := HB3.out; omega) (.cells (recC r).toArray 31)) hg9 (by have := HB.out.size; have := HB3.out; simp; omega) (H8.out.alloc _) (Nat.le_refl _); have o6 := (H6.out.alloc (.cells (recC r).toArray 31)).kept hg9 (own_apart (H6.out.alloc _) (H8.out.alloc (.cells (recC r).toArray 31)) (by decide)); have o7 := (H7.out.alloc (.cells (recC r).toArray 31)).kept hg9 (own_apart (H7.out.alloc _) (H8.out.alloc (.cells (recC r).toArray 31)) (by decide)); obtain ⟨A9, c9, rfl⟩ := own_form hown9; have HW6 := Lib.hid o6; have HW7 := Lib.hid o7; have HW8 := Lib.hid hown9; have HB9 := Lib.hid hb9; clear hown9 hg9 hat9 hb9 o6 o7)
                      clear x0 x1 x2 x3 x4 x5
                      go_roundw
                      case rel =>
                        refine ⟨i + 1, A20, A21, A9, c20, c21, c9, by omega, by go_num, by rw [HM1.out], by rw [HM1.out], by rw [HL1.out, if_pos HKP.out]; first | rfl | simp, by rw [Hco.out], HB9.out, ?_, ?_, ?_, ?_⟩
                        · rw [HM1.out]; exact HW6.out
                        · rw [HM1.out]; exact HW7.out
                        · rw [HL1.out, if_pos HKP.out]; exact by rw [List.length_append, recCells_snoc]; exact HW8.out
                        · rw [HM1.out]; exact HA.out
                      case measure => simp [intOf]; omega
                · have k2b : (r.kind == 2) = false := by simpa using k2
                  have Hco := Lib.hid (show coinF C - coinF (C.drop (i + 1)) = coinF C - coinF (C.drop i) by rw [Hcod.out, if_neg (fun h => k2 h.1), Int.zero_add])
                  clear k0 k2
                  go_quiet (fail)
                  go_upto_region 16 with (fail)
                  refine wp_name (fun VX => (Below B3 w3 VX ∧ VX.ownsRow B3 3 1 (.slice A20 M1.length c20) M1.length (M1.map (.int .i64)) ∧ VX.ownsRow B3 3 1 (.slice A21 M1.length c21) M1.length ((List.replicate M1.length (0 : Int)).map (.int .i64)) ∧ VX.ownsRow B3 31 6 (.slice A8 L.length c8) L.length (recCells L) ∧ ApartD (.slice A20 M1.length c20) (.slice A21 M1.length c21) ∧ VX.heap[XB]? = some (.cells #[.int .i64 r.mac, .int .i64 r.seq, .int .i64 r.min, .int .u8 r.kind, .int .i64 r.a, .int .i64 r.b] 31 (0, 0)))) ⟨below_drewN HB.out _, own_below H6.out (below_drewN (Below.refl _ _) _), own_below H7.out (below_drewN (Below.refl _ _) _), own_below H8.out (below_drewN (Below.refl _ _) _), HA.out, HX.out⟩ (fun VX hV => ?_)
                  clear x0 x1 x2 x3 x4 x5
                  obtain ⟨qb, q6, q7, q8, qa, qx⟩ := hV
                  have HB := Lib.hid qb
                  have H6 := Lib.hid q6
                  have H7 := Lib.hid q7
                  have H8 := Lib.hid q8
                  have HA := Lib.hid qa
                  have HX := Lib.hid qx
                  clear qb q6 q7 q8 qa qx
                  have gx := box_cells HX.out
                  have x0 := gx 0
                  have x1 := gx 1
                  have x2 := gx 2
                  have x3 := gx 3
                  have x4 := gx 4
                  have x5 := gx 5
                  simp only [List.getElem?_toArray, List.getElem?_cons_zero, List.getElem?_cons_succ] at x0 x1 x2 x3 x4 x5
                  clear gx
                  go_wp2_with (at_builtin; go_loud (refine wpList_append_src _ rfl (.tmp 111) (.tmp 113) 22 rfl B3 31 iR _ 6 48 Tryz.underlying22 hiR hzR0 hzR1 hzR2 rfl (by omega) _ L.length _ rfl (H8.out.alloc _) (some ⟨VX.heap.size, 0, none⟩) 1 1 (recC r) rfl (src_new VX (recC r) 31 1 6 rfl) (by simp [recC, Value.oneCell']) (by simp [maxLen] <;> omega) (by omega) (by have := HB.out.size; have := HB3.out; simp; omega) ?_); intro v9 w9 hown9 hg9 hat9; have hb9 := below_grown (HB.out.alloc (by have := HB.out.size; have := HB3.out; omega) (.cells (recC r).toArray 31)) hg9 (by have := HB.out.size; have := HB3.out; simp; omega) (H8.out.alloc _) (Nat.le_refl _); have o6 := (H6.out.alloc (.cells (recC r).toArray 31)).kept hg9 (own_apart (H6.out.alloc _) (H8.out.alloc (.cells (recC r).toArray 31)) (by decide)); have o7 := (H7.out.alloc (.cells (recC r).toArray 31)).kept hg9 (own_apart (H7.out.alloc _) (H8.out.alloc (.cells (recC r).toArray 31)) (by decide)); obtain ⟨A9, c9, rfl⟩ := own_form hown9; have HW6 := Lib.hid o6; have HW7 := Lib.hid o7; have HW8 := Lib.hid hown9; have HB9 := Lib.hid hb9; clear hown9 hg9 hat9 hb9 o6 o7)
                  clear x0 x1 x2 x3 x4 x5
                  go_roundw
                  case rel =>
                    refine ⟨i + 1, A20, A21, A9, c20, c21, c9, by omega, by go_num, by rw [HM1.out], by rw [HM1.out], by rw [HL1.out, if_pos HKP.out]; first | rfl | simp, by rw [Hco.out], HB9.out, ?_, ?_, ?_, ?_⟩
                    · rw [HM1.out]; exact HW6.out
                    · rw [HM1.out]; exact HW7.out
                    · rw [HL1.out, if_pos HKP.out]; exact by rw [List.length_append, recCells_snoc]; exact HW8.out
                    · rw [HM1.out]; exact HA.out
                  case measure => simp [intOf]; omega
            · obtain ⟨j, hj⟩ : ∃ j, i = j + 1 := ⟨i - 1, by omega⟩
              have hrec := Hrec.out.below (by rw [HB3.out]; exact HB1.out)
              rw [← HlenC.out] at hrec
              obtain ⟨b3, o3, q, e, hq, y0, y1, y2, y3, y4, y5, _⟩ := hrec.at_ (k := j) (by rw [HlenC.out]; omega)
              cases e
              have hlm : lastMac none (C.take i) = some q.mac := by
                unfold lastMac
                have hlen : (C.take i).length = j + 1 := by rw [List.length_take, HlenC.out]; omega
                rw [List.getLast?_eq_getElem?, hlen, Nat.add_sub_cancel, List.getElem?_take, if_pos (by omega), hq]
              have e0 : decide (i = 0) = false := by simpa using hi0
              have e1 : (i == 0) = false := by simpa using hi0
              have e2 : ((i : Int) == 0) = false := by simpa using hi0
              have q1 : IntKind.i64.wrap ((i : Int) - 1) = (j : Int) := by rw [IntWalk.i64_in _ (by omega)]; omega
              have q2 : (i : Int) - 1 = (j : Int) := by omega
              have q3 : (j : Int) < (N : Int) := by omega
              have x0 := box_cells HX1.out 0
              simp only [List.getElem?_toArray, List.getElem?_cons_zero] at x0
              by_cases hm : r.mac = q.mac
              · have m1 : (r.mac != q.mac) = false := by simp [hm]
                have hMe : M1 = M := by rw [HMM.out, hlm, hm, if_pos rfl, List.append_nil]
                clear hm hlm hq hrec hi0 hj y1 y2 y3 y4 y5
                subst hMe
                go_quiet (fail)
                clear m1 e0 e1 e2 q1 q2 q3 x0 y0
                go_upto_region 13 with (fail)
                refine wp_name (fun VV => (Below B3 w3 VV ∧ VV.ownsRow B3 3 1 (.slice A6 M1.length c6) M1.length (M1.map (.int .i64)) ∧ VV.ownsRow B3 3 1 (.slice A7 M1.length c7) M1.length ((List.replicate M1.length (0 : Int)).map (.int .i64)) ∧ VV.ownsRow B3 31 6 (.slice A8 L.length c8) L.length (recCells L) ∧ ApartD (.slice A6 M1.length c6) (.slice A7 M1.length c7) ∧ VV.heap[XB]? = some (.cells #[.int .i64 r.mac, .int .i64 r.seq, .int .i64 r.min, .int .u8 r.kind, .int .i64 r.a, .int .i64 r.b] 31 (0, 0)))) ⟨below_drewN HB1.out _, own_below K6.out (below_drewN (Below.refl _ _) _), own_below K7.out (below_drewN (Below.refl _ _) _), own_below K8.out (below_drewN (Below.refl _ _) _), Hap.out, HX1.out⟩ (fun VV hV => ?_)
                obtain ⟨qb, q6, q7, q8, qa, qx⟩ := hV
                have HB := Lib.hid qb
                have H6 := Lib.hid q6
                have H7 := Lib.hid q7
                have H8 := Lib.hid q8
                have HA := Lib.hid qa
                have HX := Lib.hid qx
                clear qb q6 q7 q8 qa qx
                have gx := box_cells HX.out
                have x0 := gx 0
                have x1 := gx 1
                have x2 := gx 2
                have x3 := gx 3
                have x4 := gx 4
                have x5 := gx 5
                simp only [List.getElem?_toArray, List.getElem?_cons_zero, List.getElem?_cons_succ] at x0 x1 x2 x3 x4 x5
                clear gx
                by_cases k0 : r.kind = 0
                · have k2b : (r.kind == 2) = false := by rw [k0]; rfl
                  have k0b : (r.kind != 0) = false := by simp [k0]
                  have Hco := Lib.hid (show coinF C - coinF (C.drop (i + 1)) = coinF C - coinF (C.drop i) by rw [Hcod.out, if_neg (fun h => by omega), Int.zero_add])
                  have K0 := Lib.hid k0
                  clear k0
                  by_cases hbit : ((bits / 2 ^ (i % 64)).tmod 2 == 0) = true
                  · have HKP := Lib.hid (show r.kind ≠ 0 ∨ p i = true from .inr (by rw [hp]; exact hbit))
                    go_quiet (fail)
                    go_upto_region 16 with (fail)
                    refine wp_name (fun VX => (Below B3 w3 VX ∧ VX.ownsRow B3 3 1 (.slice A6 M1.length c6) M1.length (M1.map (.int .i64)) ∧ VX.ownsRow B3 3 1 (.slice A7 M1.length c7) M1.length ((List.replicate M1.length (0 : Int)).map (.int .i64)) ∧ VX.ownsRow B3 31 6 (.slice A8 L.length c8) L.length (recCells L) ∧ ApartD (.slice A6 M1.length c6) (.slice A7 M1.length c7) ∧ VX.heap[XB]? = some (.cells #[.int .i64 r.mac, .int .i64 r.seq, .int .i64 r.min, .int .u8 r.kind, .int .i64 r.a, .int .i64 r.b] 31 (0, 0)))) ⟨below_drewN HB.out _, own_below H6.out (below_drewN (Below.refl _ _) _), own_below H7.out (below_drewN (Below.refl _ _) _), own_below H8.out (below_drewN (Below.refl _ _) _), HA.out, HX.out⟩ (fun VX hV => ?_)
                    clear x0 x1 x2 x3 x4 x5
                    obtain ⟨qb, q6, q7, q8, qa, qx⟩ := hV
                    have HB := Lib.hid qb
                    have H6 := Lib.hid q6
                    have H7 := Lib.hid q7
                    have H8 := Lib.hid q8
                    have HA := Lib.hid qa
                    have HX := Lib.hid qx
                    clear qb q6 q7 q8 qa qx
                    have gx := box_cells HX.out
                    have x0 := gx 0
                    have x1 := gx 1
                    have x2 := gx 2
                    have x3 := gx 3
                    have x4 := gx 4
                    have x5 := gx 5
                    simp only [List.getElem?_toArray, List.getElem?_cons_zero, List.getElem?_cons_succ] at x0 x1 x2 x3 x4 x5
                    clear gx
                    go_wp2_with (at_builtin; go_loud (refine wpList_append_src _ rfl (.tmp 111) (.tmp 113) 22 rfl B3 31 iR _ 6 48 Tryz.underlying22 hiR hzR0 hzR1 hzR2 rfl (by omega) _ L.length _ rfl (H8.out.alloc _) (some ⟨VX.heap.size, 0, none⟩) 1 1 (recC r) rfl (src_new VX (recC r) 31 1 6 rfl) (by simp [recC, Value.oneCell']) (by simp [maxLen] <;> omega) (by omega) (by have := HB.out.size; have := HB3.out; simp; omega) ?_); intro v9 w9 hown9 hg9 hat9; have hb9 := below_grown (HB.out.alloc (by have := HB.out.size; have := HB3.out; omega) (.cells (recC r).toArray 31)) hg9 (by have := HB.out.size; have := HB3.out; simp; omega) (H8.out.alloc _) (Nat.le_refl _); have o6 := (H6.out.alloc (.cells (recC r).toArray 31)).kept hg9 (own_apart (H6.out.alloc _) (H8.out.alloc (.cells (recC r).toArray 31)) (by decide)); have o7 := (H7.out.alloc (.cells (recC r).toArray 31)).kept hg9 (own_apart (H7.out.alloc _) (H8.out.alloc (.cells (recC r).toArray 31)) (by decide)); obtain ⟨A9, c9, rfl⟩ := own_form hown9; have HW6 := Lib.hid o6; have HW7 := Lib.hid o7; have HW8 := Lib.hid hown9; have HB9 := Lib.hid hb9; clear hown9 hg9 hat9 hb9 o6 o7)
                    clear x0 x1 x2 x3 x4 x5
                    go_roundw
                    case rel =>
                      refine ⟨i + 1, A6, A7, A9, c6, c7, c9, by omega, by go_num, by rw [HM1.out], by rw [HM1.out], by rw [HL1.out, if_pos HKP.out]; first | rfl | simp, by rw [Hco.out], HB9.out, ?_, ?_, ?_, ?_⟩
                      · rw [HM1.out]; exact HW6.out
                      · rw [HM1.out]; exact HW7.out
                      · rw [HL1.out, if_pos HKP.out]; exact by rw [List.length_append, recCells_snoc]; exact HW8.out
                      · rw [HM1.out]; exact HA.out
                    case measure => simp [intOf]; omega
                  · have hbit2 : ((bits / 2 ^ (i % 64)).tmod 2 == 0) = false := by simpa using hbit
                    have HKP := Lib.hid (show ¬ (r.kind ≠ 0 ∨ p i = true) from fun h => by
                      rcases h with h | h
                      · exact h K0.out
                      · rw [hp] at h; exact hbit h)
                    clear hbit
                    go_quiet (fail)
                    go_upto_region 9 with (fail)
                    refine wp_name (fun VX => (Below B3 w3 VX ∧ VX.ownsRow B3 3 1 (.slice A6 M1.length c6) M1.length (M1.map (.int .i64)) ∧ VX.ownsRow B3 3 1 (.slice A7 M1.length c7) M1.length ((List.replicate M1.length (0 : Int)).map (.int .i64)) ∧ VX.ownsRow B3 31 6 (.slice A8 L.length c8) L.length (recCells L) ∧ ApartD (.slice A6 M1.length c6) (.slice A7 M1.length c7) ∧ VX.heap[XB]? = some (.cells #[.int .i64 r.mac, .int .i64 r.seq, .int .i64 r.min, .int .u8 r.kind, .int .i64 r.a, .int .i64 r.b] 31 (0, 0)))) ⟨below_drewN HB.out _, own_below H6.out (below_drewN (Below.refl _ _) _), own_below H7.out (below_drewN (Below.refl _ _) _), own_below H8.out (below_drewN (Below.refl _ _) _), HA.out, HX.out⟩ (fun VX hV => ?_)
                    clear x0 x1 x2 x3 x4 x5
                    obtain ⟨qb, q6, q7, q8, qa, qx⟩ := hV
                    have HB := Lib.hid qb
                    have H6 := Lib.hid q6
                    have H7 := Lib.hid q7
                    have H8 := Lib.hid q8
                    have HA := Lib.hid qa
                    have HX := Lib.hid qx
                    clear qb q6 q7 q8 qa qx
                    have gx := box_cells HX.out
                    have x0 := gx 0
                    have x1 := gx 1
                    have x2 := gx 2
                    have x3 := gx 3
                    have x4 := gx 4
                    have x5 := gx 5
                    simp only [List.getElem?_toArray, List.getElem?_cons_zero, List.getElem?_cons_succ] at x0 x1 x2 x3 x4 x5
                    clear gx
                    clear x0 x1 x2 x3 x4 x5
                    go_wp2
                    go_roundw
                    case rel => exact ⟨i + 1, A6, A7, A8, c6, c7, c8, by omega, by go_num, by rw [HM1.out], by rw [HM1.out], by rw [HL1.out, if_neg HKP.out, List.append_nil], by rw [Hco.out], HB.out, by rw [HM1.out]; exact H6.out, by rw [HM1.out]; exact H7.out, by rw [HL1.out, if_neg HKP.out, List.append_nil]; exact H8.out, by rw [HM1.out]; exact HA.out⟩
                    case measure => simp [intOf]; omega
                · have k0b : (r.kind != 0) = true := by simpa using k0
                  have HKP := Lib.hid (show r.kind ≠ 0 ∨ p i = true from .inl k0)
                  by_cases k2 : r.kind = 2
                  · have k2b : (r.kind == 2) = true := by simpa using k2
                    have hbb : 0 ≤ r.b ∧ r.b ≤ 10000000 := by rcases hokr.kind with h | h | h <;> omega
                    have K2 := Lib.hid k2
                    clear k0 k2
                    by_cases hlast : i + 1 = N
                    · have hn : C[i + 1]? = none := List.getElem?_eq_none (by rw [HlenC.out]; omega)
                      have Hco := Lib.hid (show coinF C - coinF (C.drop (i + 1)) = coinF C - coinF (C.drop i) + r.b by rw [Hcod.out, hn, if_pos ⟨K2.out, by simp⟩]; omega)
                      have q1 : IntKind.i64.wrap ((N : Int) - 1) = (i : Int) := by rw [IntWalk.i64_in _ (by omega)]; omega
                      have q2 : (N : Int) - 1 = (i : Int) := by omega
                      have q3 : ((i : Int) == (i : Int)) = true := by simp
                      clear hn hlast
                      go_quiet (fail)
                      go_upto_region 16 with (fail)
                      refine wp_name (fun VX => (Below B3 w3 VX ∧ VX.ownsRow B3 3 1 (.slice A6 M1.length c6) M1.length (M1.map (.int .i64)) ∧ VX.ownsRow B3 3 1 (.slice A7 M1.length c7) M1.length ((List.replicate M1.length (0 : Int)).map (.int .i64)) ∧ VX.ownsRow B3 31 6 (.slice A8 L.length c8) L.length (recCells L) ∧ ApartD (.slice A6 M1.length c6) (.slice A7 M1.length c7) ∧ VX.heap[XB]? = some (.cells #[.int .i64 r.mac, .int .i64 r.seq, .int .i64 r.min, .int .u8 r.kind, .int .i64 r.a, .int .i64 r.b] 31 (0, 0)))) ⟨below_drewN HB.out _, own_below H6.out (below_drewN (Below.refl _ _) _), own_below H7.out (below_drewN (Below.refl _ _) _), own_below H8.out (below_drewN (Below.refl _ _) _), HA.out, HX.out⟩ (fun VX hV => ?_)
                      clear x0 x1 x2 x3 x4 x5
                      obtain ⟨qb, q6, q7, q8, qa, qx⟩ := hV
                      have HB := Lib.hid qb
                      have H6 := Lib.hid q6
                      have H7 := Lib.hid q7
                      have H8 := Lib.hid q8
                      have HA := Lib.hid qa
                      have HX := Lib.hid qx
                      clear qb q6 q7 q8 qa qx
                      have gx := box_cells HX.out
                      have x0 := gx 0
                      have x1 := gx 1
                      have x2 := gx 2
                      have x3 := gx 3
                      have x4 := gx 4
                      have x5 := gx 5
                      simp only [List.getElem?_toArray, List.getElem?_cons_zero, List.getElem?_cons_succ] at x0 x1 x2 x3 x4 x5
                      clear gx
                      go_wp2_with (at_builtin; go_loud (refine wpList_append_src _ rfl (.tmp 111) (.tmp 113) 22 rfl B3 31 iR _ 6 48 Tryz.underlying22 hiR hzR0 hzR1 hzR2 rfl (by omega) _ L.length _ rfl (H8.out.alloc _) (some ⟨VX.heap.size, 0, none⟩) 1 1 (recC r) rfl (src_new VX (recC r) 31 1 6 rfl) (by simp [recC, Value.oneCell']) (by simp [maxLen] <;> omega) (by omega) (by have := HB.out.size; have := HB3.out; simp; omega) ?_); intro v9 w9 hown9 hg9 hat9; have hb9 := below_grown (HB.out.alloc (by have := HB.out.size; have := HB3.out; omega) (.cells (recC r).toArray 31)) hg9 (by have := HB.out.size; have := HB3.out; simp; omega) (H8.out.alloc _) (Nat.le_refl _); have o6 := (H6.out.alloc (.cells (recC r).toArray 31)).kept hg9 (own_apart (H6.out.alloc _) (H8.out.alloc (.cells (recC r).toArray 31)) (by decide)); have o7 := (H7.out.alloc (.cells (recC r).toArray 31)).kept hg9 (own_apart (H7.out.alloc _) (H8.out.alloc (.cells (recC r).toArray 31)) (by decide)); obtain ⟨A9, c9, rfl⟩ := own_form hown9; have HW6 := Lib.hid o6; have HW7 := Lib.hid o7; have HW8 := Lib.hid hown9; have HB9 := Lib.hid hb9; clear hown9 hg9 hat9 hb9 o6 o7)
                      clear x0 x1 x2 x3 x4 x5
                      go_roundw
                      case rel =>
                        refine ⟨i + 1, A6, A7, A9, c6, c7, c9, by omega, by go_num, by rw [HM1.out], by rw [HM1.out], by rw [HL1.out, if_pos HKP.out]; first | rfl | simp, by rw [Hco.out], HB9.out, ?_, ?_, ?_, ?_⟩
                        · rw [HM1.out]; exact HW6.out
                        · rw [HM1.out]; exact HW7.out
                        · rw [HL1.out, if_pos HKP.out]; exact by rw [List.length_append, recCells_snoc]; exact HW8.out
                        · rw [HM1.out]; exact HA.out
                      case measure => simp [intOf]; omega
                    · have hrec := Hrec.out.below (by rw [HB3.out]; exact HB.out)
                      rw [← HlenC.out] at hrec
                      obtain ⟨b4, o4, z, e, hz, z0, z1, z2, z3, z4, z5, _⟩ := hrec.at_ (k := i + 1) (by rw [HlenC.out]; omega)
                      cases e
                      have q2 : (N : Int) - 1 ≠ (i : Int) := by omega
                      have q3 : ((i : Int) == (N : Int) - 1) = false := by simp; omega
                      have q4 : IntKind.i64.wrap ((i : Int) + 1) = ((i + 1 : Nat) : Int) := by rw [IntWalk.i64_in _ (by omega)]; omega
                      have q5 : ((i + 1 : Nat) : Int) < (N : Int) := by omega
                      clear hrec hlast z1 z2 z3 z4 z5
                      by_cases hzm : z.mac = r.mac
                      · have m1 : (z.mac != r.mac) = false := by simp [hzm]
                        have Hco := Lib.hid (show coinF C - coinF (C.drop (i + 1)) = coinF C - coinF (C.drop i) by rw [Hcod.out, hz, if_neg (fun h => h.2 (by simp [hzm])), Int.zero_add])
                        clear hz hzm
                        go_quiet (fail)
                        go_upto_region 16 with (fail)
                        refine wp_name (fun VX => (Below B3 w3 VX ∧ VX.ownsRow B3 3 1 (.slice A6 M1.length c6) M1.length (M1.map (.int .i64)) ∧ VX.ownsRow B3 3 1 (.slice A7 M1.length c7) M1.length ((List.replicate M1.length (0 : Int)).map (.int .i64)) ∧ VX.ownsRow B3 31 6 (.slice A8 L.length c8) L.length (recCells L) ∧ ApartD (.slice A6 M1.length c6) (.slice A7 M1.length c7) ∧ VX.heap[XB]? = some (.cells #[.int .i64 r.mac, .int .i64 r.seq, .int .i64 r.min, .int .u8 r.kind, .int .i64 r.a, .int .i64 r.b] 31 (0, 0)))) ⟨below_drewN HB.out _, own_below H6.out (below_drewN (Below.refl _ _) _), own_below H7.out (below_drewN (Below.refl _ _) _), own_below H8.out (below_drewN (Below.refl _ _) _), HA.out, HX.out⟩ (fun VX hV => ?_)
                        clear x0 x1 x2 x3 x4 x5
                        obtain ⟨qb, q6, q7, q8, qa, qx⟩ := hV
                        have HB := Lib.hid qb
                        have H6 := Lib.hid q6
                        have H7 := Lib.hid q7
                        have H8 := Lib.hid q8
                        have HA := Lib.hid qa
                        have HX := Lib.hid qx
                        clear qb q6 q7 q8 qa qx
                        have gx := box_cells HX.out
                        have x0 := gx 0
                        have x1 := gx 1
                        have x2 := gx 2
                        have x3 := gx 3
                        have x4 := gx 4
                        have x5 := gx 5
                        simp only [List.getElem?_toArray, List.getElem?_cons_zero, List.getElem?_cons_succ] at x0 x1 x2 x3 x4 x5
                        clear gx
                        go_wp2_with (at_builtin; go_loud (refine wpList_append_src _ rfl (.tmp 111) (.tmp 113) 22 rfl B3 31 iR _ 6 48 Tryz.underlying22 hiR hzR0 hzR1 hzR2 rfl (by omega) _ L.length _ rfl (H8.out.alloc _) (some ⟨VX.heap.size, 0, none⟩) 1 1 (recC r) rfl (src_new VX (recC r) 31 1 6 rfl) (by simp [recC, Value.oneCell']) (by simp [maxLen] <;> omega) (by omega) (by have := HB.out.size; have := HB3.out; simp; omega) ?_); intro v9 w9 hown9 hg9 hat9; have hb9 := below_grown (HB.out.alloc (by have := HB.out.size; have := HB3.out; omega) (.cells (recC r).toArray 31)) hg9 (by have := HB.out.size; have := HB3.out; simp; omega) (H8.out.alloc _) (Nat.le_refl _); have o6 := (H6.out.alloc (.cells (recC r).toArray 31)).kept hg9 (own_apart (H6.out.alloc _) (H8.out.alloc (.cells (recC r).toArray 31)) (by decide)); have o7 := (H7.out.alloc (.cells (recC r).toArray 31)).kept hg9 (own_apart (H7.out.alloc _) (H8.out.alloc (.cells (recC r).toArray 31)) (by decide)); obtain ⟨A9, c9, rfl⟩ := own_form hown9; have HW6 := Lib.hid o6; have HW7 := Lib.hid o7; have HW8 := Lib.hid hown9; have HB9 := Lib.hid hb9; clear hown9 hg9 hat9 hb9 o6 o7)
                        clear x0 x1 x2 x3 x4 x5
                        go_roundw
                        case rel =>
                          refine ⟨i + 1, A6, A7, A9, c6, c7, c9, by omega, by go_num, by rw [HM1.out], by rw [HM1.out], by rw [HL1.out, if_pos HKP.out]; first | rfl | simp, by rw [Hco.out], HB9.out, ?_, ?_, ?_, ?_⟩
                          · rw [HM1.out]; exact HW6.out
                          · rw [HM1.out]; exact HW7.out
                          · rw [HL1.out, if_pos HKP.out]; exact by rw [List.length_append, recCells_snoc]; exact HW8.out
                          · rw [HM1.out]; exact HA.out
                        case measure => simp [intOf]; omega
                      · have m1 : (z.mac != r.mac) = true := by simpa using hzm
                        have Hco := Lib.hid (show coinF C - coinF (C.drop (i + 1)) = coinF C - coinF (C.drop i) + r.b by rw [Hcod.out, hz, if_pos ⟨K2.out, fun h => hzm (by simpa using h)⟩]; omega)
                        clear hz hzm
                        go_quiet (fail)
                        go_upto_region 16 with (fail)
                        refine wp_name (fun VX => (Below B3 w3 VX ∧ VX.ownsRow B3 3 1 (.slice A6 M1.length c6) M1.length (M1.map (.int .i64)) ∧ VX.ownsRow B3 3 1 (.slice A7 M1.length c7) M1.length ((List.replicate M1.length (0 : Int)).map (.int .i64)) ∧ VX.ownsRow B3 31 6 (.slice A8 L.length c8) L.length (recCells L) ∧ ApartD (.slice A6 M1.length c6) (.slice A7 M1.length c7) ∧ VX.heap[XB]? = some (.cells #[.int .i64 r.mac, .int .i64 r.seq, .int .i64 r.min, .int .u8 r.kind, .int .i64 r.a, .int .i64 r.b] 31 (0, 0)))) ⟨below_drewN HB.out _, own_below H6.out (below_drewN (Below.refl _ _) _), own_below H7.out (below_drewN (Below.refl _ _) _), own_below H8.out (below_drewN (Below.refl _ _) _), HA.out, HX.out⟩ (fun VX hV => ?_)
                        clear x0 x1 x2 x3 x4 x5
                        obtain ⟨qb, q6, q7, q8, qa, qx⟩ := hV
                        have HB := Lib.hid qb
                        have H6 := Lib.hid q6
                        have H7 := Lib.hid q7
                        have H8 := Lib.hid q8
                        have HA := Lib.hid qa
                        have HX := Lib.hid qx
                        clear qb q6 q7 q8 qa qx
                        have gx := box_cells HX.out
                        have x0 := gx 0
                        have x1 := gx 1
                        have x2 := gx 2
                        have x3 := gx 3
                        have x4 := gx 4
                        have x5 := gx 5
                        simp only [List.getElem?_toArray, List.getElem?_cons_zero, List.getElem?_cons_succ] at x0 x1 x2 x3 x4 x5
                        clear gx
                        go_wp2_with (at_builtin; go_loud (refine wpList_append_src _ rfl (.tmp 111) (.tmp 113) 22 rfl B3 31 iR _ 6 48 Tryz.underlying22 hiR hzR0 hzR1 hzR2 rfl (by omega) _ L.length _ rfl (H8.out.alloc _) (some ⟨VX.heap.size, 0, none⟩) 1 1 (recC r) rfl (src_new VX (recC r) 31 1 6 rfl) (by simp [recC, Value.oneCell']) (by simp [maxLen] <;> omega) (by omega) (by have := HB.out.size; have := HB3.out; simp; omega) ?_); intro v9 w9 hown9 hg9 hat9; have hb9 := below_grown (HB.out.alloc (by have := HB.out.size; have := HB3.out; omega) (.cells (recC r).toArray 31)) hg9 (by have := HB.out.size; have := HB3.out; simp; omega) (H8.out.alloc _) (Nat.le_refl _); have o6 := (H6.out.alloc (.cells (recC r).toArray 31)).kept hg9 (own_apart (H6.out.alloc _) (H8.out.alloc (.cells (recC r).toArray 31)) (by decide)); have o7 := (H7.out.alloc (.cells (recC r).toArray 31)).kept hg9 (own_apart (H7.out.alloc _) (H8.out.alloc (.cells (recC r).toArray 31)) (by decide)); obtain ⟨A9, c9, rfl⟩ := own_form hown9; have HW6 := Lib.hid o6; have HW7 := Lib.hid o7; have HW8 := Lib.hid hown9; have HB9 := Lib.hid hb9; clear hown9 hg9 hat9 hb9 o6 o7)
                        clear x0 x1 x2 x3 x4 x5
                        go_roundw
                        case rel =>
                          refine ⟨i + 1, A6, A7, A9, c6, c7, c9, by omega, by go_num, by rw [HM1.out], by rw [HM1.out], by rw [HL1.out, if_pos HKP.out]; first | rfl | simp, by rw [Hco.out], HB9.out, ?_, ?_, ?_, ?_⟩
                          · rw [HM1.out]; exact HW6.out
                          · rw [HM1.out]; exact HW7.out
                          · rw [HL1.out, if_pos HKP.out]; exact by rw [List.length_append, recCells_snoc]; exact HW8.out
                          · rw [HM1.out]; exact HA.out
                        case measure => simp [intOf]; omega
                  · have k2b : (r.kind == 2) = false := by simpa using k2
                    have Hco := Lib.hid (show coinF C - coinF (C.drop (i + 1)) = coinF C - coinF (C.drop i) by rw [Hcod.out, if_neg (fun h => k2 h.1), Int.zero_add])
                    clear k0 k2
                    go_quiet (fail)
                    go_upto_region 16 with (fail)
                    refine wp_name (fun VX => (Below B3 w3 VX ∧ VX.ownsRow B3 3 1 (.slice A6 M1.length c6) M1.length (M1.map (.int .i64)) ∧ VX.ownsRow B3 3 1 (.slice A7 M1.length c7) M1.length ((List.replicate M1.length (0 : Int)).map (.int .i64)) ∧ VX.ownsRow B3 31 6 (.slice A8 L.length c8) L.length (recCells L) ∧ ApartD (.slice A6 M1.length c6) (.slice A7 M1.length c7) ∧ VX.heap[XB]? = some (.cells #[.int .i64 r.mac, .int .i64 r.seq, .int .i64 r.min, .int .u8 r.kind, .int .i64 r.a, .int .i64 r.b] 31 (0, 0)))) ⟨below_drewN HB.out _, own_below H6.out (below_drewN (Below.refl _ _) _), own_below H7.out (below_drewN (Below.refl _ _) _), own_below H8.out (below_drewN (Below.refl _ _) _), HA.out, HX.out⟩ (fun VX hV => ?_)
                    clear x0 x1 x2 x3 x4 x5
                    obtain ⟨qb, q6, q7, q8, qa, qx⟩ := hV
                    have HB := Lib.hid qb
                    have H6 := Lib.hid q6
                    have H7 := Lib.hid q7
                    have H8 := Lib.hid q8
                    have HA := Lib.hid qa
                    have HX := Lib.hid qx
                    clear qb q6 q7 q8 qa qx
                    have gx := box_cells HX.out
                    have x0 := gx 0
                    have x1 := gx 1
                    have x2 := gx 2
                    have x3 := gx 3
                    have x4 := gx 4
                    have x5 := gx 5
                    simp only [List.getElem?_toArray, List.getElem?_cons_zero, List.getElem?_cons_succ] at x0 x1 x2 x3 x4 x5
                    clear gx
                    go_wp2_with (at_builtin; go_loud (refine wpList_append_src _ rfl (.tmp 111) (.tmp 113) 22 rfl B3 31 iR _ 6 48 Tryz.underlying22 hiR hzR0 hzR1 hzR2 rfl (by omega) _ L.length _ rfl (H8.out.alloc _) (some ⟨VX.heap.size, 0, none⟩) 1 1 (recC r) rfl (src_new VX (recC r) 31 1 6 rfl) (by simp [recC, Value.oneCell']) (by simp [maxLen] <;> omega) (by omega) (by have := HB.out.size; have := HB3.out; simp; omega) ?_); intro v9 w9 hown9 hg9 hat9; have hb9 := below_grown (HB.out.alloc (by have := HB.out.size; have := HB3.out; omega) (.cells (recC r).toArray 31)) hg9 (by have := HB.out.size; have := HB3.out; simp; omega) (H8.out.alloc _) (Nat.le_refl _); have o6 := (H6.out.alloc (.cells (recC r).toArray 31)).kept hg9 (own_apart (H6.out.alloc _) (H8.out.alloc (.cells (recC r).toArray 31)) (by decide)); have o7 := (H7.out.alloc (.cells (recC r).toArray 31)).kept hg9 (own_apart (H7.out.alloc _) (H8.out.alloc (.cells (recC r).toArray 31)) (by decide)); obtain ⟨A9, c9, rfl⟩ := own_form hown9; have HW6 := Lib.hid o6; have HW7 := Lib.hid o7; have HW8 := Lib.hid hown9; have HB9 := Lib.hid hb9; clear hown9 hg9 hat9 hb9 o6 o7)
                    clear x0 x1 x2 x3 x4 x5
                    go_roundw
                    case rel =>
                      refine ⟨i + 1, A6, A7, A9, c6, c7, c9, by omega, by go_num, by rw [HM1.out], by rw [HM1.out], by rw [HL1.out, if_pos HKP.out]; first | rfl | simp, by rw [Hco.out], HB9.out, ?_, ?_, ?_, ?_⟩
                      · rw [HM1.out]; exact HW6.out
                      · rw [HM1.out]; exact HW7.out
                      · rw [HL1.out, if_pos HKP.out]; exact by rw [List.length_append, recCells_snoc]; exact HW8.out
                      · rw [HM1.out]; exact HA.out
                    case measure => simp [intOf]; omega
              · have m1 : (r.mac != q.mac) = true := by simpa using hm
                have hMe : M1 = M ++ [r.mac] := by rw [HMM.out, hlm, if_neg (fun h => hm (Option.some.inj h).symm)]
                have HMe := Lib.hid hMe
                clear hm hlm hq hrec hi0 hj hMe y1 y2 y3 y4 y5
                go_quiet (fail)
                clear m1 e0 e1 e2 q1 q2 q3 x0 y0
                go_upto_region 12 with (fail)
                refine wp_name (fun V2 => Below B3 w3 V2 ∧ B3 ≤ V2.heap.size ∧ V2.ownsRow B3 3 1 (.slice A6 M.length c6) M.length (M.map (.int .i64)) ∧ V2.ownsRow B3 3 1 (.slice A7 M.length c7) M.length ((List.replicate M.length (0 : Int)).map (.int .i64)) ∧ V2.ownsRow B3 31 6 (.slice A8 L.length c8) L.length (recCells L) ∧ V2.heap[XB]? = some (.cells #[.int .i64 r.mac, .int .i64 r.seq, .int .i64 r.min, .int .u8 r.kind, .int .i64 r.a, .int .i64 r.b] 31 (0, 0))) ⟨below_drewN HB1.out _, hBV, own_below K6.out (below_drewN (Below.refl _ _) _), own_below K7.out (below_drewN (Below.refl _ _) _), own_below K8.out (below_drewN (Below.refl _ _) _), HX1.out⟩ (fun V2 hV2 => ?_)
                obtain ⟨hb2, hs2, k6, k7, k8, kx⟩ := hV2
                have hlM1 : M1.length = M.length + 1 := by rw [HMe.out]; simp
                have hrep : (List.replicate M1.length (0 : Int)).map (Value.int .i64) = (List.replicate M.length (0 : Int)).map (Value.int .i64) ++ [.int .i64 0] := by rw [hlM1, List.replicate_succ', List.map_append]; rfl
                have hmap : M1.map (Value.int .i64) = M.map (Value.int .i64) ++ [.int .i64 r.mac] := by rw [HMe.out, List.map_append]; rfl
                have HlM := Lib.hid hlM1
                have Hrep := Lib.hid hrep
                have Hmap := Lib.hid hmap
                have x0 := box_cells kx 0
                simp only [List.getElem?_toArray, List.getElem?_cons_zero] at x0
                clear hlM1 hrep hmap
                go_upto_region 13 with (first
                  | (at_builtin; go_loud (refine wpList_append_src _ rfl (.tmp 66) (.tmp 69) 29 rfl B3 3 iI _ 1 8 Tryz.underlying29 hiI hzI0 hzI1 hzI2 rfl (by omega) _ M.length _ rfl (k6.alloc _) (some ⟨V2.heap.size, 0, none⟩) 1 1 [.int .i64 r.mac] rfl (src_new V2 [.int .i64 r.mac] 3 1 1 rfl) (by simp [Value.oneCell']) (by simp [maxLen] <;> omega) (by omega) (by simp <;> omega) ?_; intro v20 w20 o20 g20 a20; have b20 := below_grown (hb2.alloc hs2 (.cells #[.int .i64 r.mac] 3)) g20 (by simp <;> omega) (k6.alloc _) (Nat.le_refl _); have p7 := (k7.alloc (.cells #[.int .i64 r.mac] 3)).kept g20 Hap.out.symm; have p8 := (k8.alloc (.cells #[.int .i64 r.mac] 3)).kept g20 (own_apart (k8.alloc _) (k6.alloc (.cells #[.int .i64 r.mac] 3)) (by decide)); have px := own_type_kept (k6.alloc (.cells #[.int .i64 r.mac] 3)) g20 ((Below.heap_alloc _ _ _ (Array.getElem?_eq_some_iff.1 kx).1).trans kx) (by decide); have ap20 := ApartD.app Hap.out a20 (k7.alloc _); have s20 : B3 ≤ w20.heap.size := Nat.le_trans hs2 (Nat.le_trans (((Below.refl _ V2).alloc (Nat.le_refl _) (.cells #[.int .i64 r.mac] 3)).size) g20.size); obtain ⟨A20, c20, rfl⟩ := own_form o20; clear x0))
                  | (at_builtin; go_loud (refine wpList_append_src _ rfl (.tmp 71) (.tmp 72) 29 rfl B3 3 iI _ 1 8 Tryz.underlying29 hiI hzI0 hzI1 hzI2 rfl (by omega) _ M.length _ rfl (p7.alloc _) (some ⟨w20.heap.size, 0, none⟩) 1 1 [.int .i64 0] rfl (src_new w20 [.int .i64 0] 3 1 1 rfl) (by simp [Value.oneCell']) (by simp [maxLen] <;> omega) (by omega) (by simp <;> omega) ?_); intro v21 w21 o21 g21 a21; have b21 := below_grown (b20.alloc s20 (.cells #[.int .i64 0] 3)) g21 (by simp <;> omega) (p7.alloc _) (Nat.le_refl _); have r6 := (o20.alloc (.cells #[.int .i64 0] 3)).kept g21 ap20; have r8 := (p8.alloc (.cells #[.int .i64 0] 3)).kept g21 (own_apart (p8.alloc _) (p7.alloc (.cells #[.int .i64 0] 3)) (by decide)); have rx := own_type_kept (p7.alloc (.cells #[.int .i64 0] 3)) g21 ((Below.heap_alloc _ _ _ (Array.getElem?_eq_some_iff.1 px).1).trans px) (by decide); have ap21 := (ApartD.app ap20.symm a21 (o20.alloc _)).symm; obtain ⟨A21, c21, rfl⟩ := own_form o21))
                rw [← HlM.out, ← Hmap.out] at r6
                rw [← HlM.out, ← Hrep.out] at o21
                rw [← HlM.out] at ap21 ⊢
                refine wp_name (fun VV => (Below B3 w3 VV ∧ VV.ownsRow B3 3 1 (.slice A20 M1.length c20) M1.length (M1.map (.int .i64)) ∧ VV.ownsRow B3 3 1 (.slice A21 M1.length c21) M1.length ((List.replicate M1.length (0 : Int)).map (.int .i64)) ∧ VV.ownsRow B3 31 6 (.slice A8 L.length c8) L.length (recCells L) ∧ ApartD (.slice A20 M1.length c20) (.slice A21 M1.length c21) ∧ VV.heap[XB]? = some (.cells #[.int .i64 r.mac, .int .i64 r.seq, .int .i64 r.min, .int .u8 r.kind, .int .i64 r.a, .int .i64 r.b] 31 (0, 0)))) ⟨b21, r6, o21, r8, ap21, rx⟩ (fun VV hV => ?_)
                obtain ⟨qb, q6, q7, q8, qa, qx⟩ := hV
                have HB := Lib.hid qb
                have H6 := Lib.hid q6
                have H7 := Lib.hid q7
                have H8 := Lib.hid q8
                have HA := Lib.hid qa
                have HX := Lib.hid qx
                clear qb q6 q7 q8 qa qx
                have gx := box_cells HX.out
                have x0 := gx 0
                have x1 := gx 1
                have x2 := gx 2
                have x3 := gx 3
                have x4 := gx 4
                have x5 := gx 5
                simp only [List.getElem?_toArray, List.getElem?_cons_zero, List.getElem?_cons_succ] at x0 x1 x2 x3 x4 x5
                clear gx
                by_cases k0 : r.kind = 0
                · have k2b : (r.kind == 2) = false := by rw [k0]; rfl
                  have k0b : (r.kind != 0) = false := by simp [k0]
                  have Hco := Lib.hid (show coinF C - coinF (C.drop (i + 1)) = coinF C - coinF (C.drop i) by rw [Hcod.out, if_neg (fun h => by omega), Int.zero_add])
                  have K0 := Lib.hid k0
                  clear k0
                  by_cases hbit : ((bits / 2 ^ (i % 64)).tmod 2 == 0) = true
                  · have HKP := Lib.hid (show r.kind ≠ 0 ∨ p i = true from .inr (by rw [hp]; exact hbit))
                    go_quiet (fail)
                    go_upto_region 16 with (fail)
                    refine wp_name (fun VX => (Below B3 w3 VX ∧ VX.ownsRow B3 3 1 (.slice A20 M1.length c20) M1.length (M1.map (.int .i64)) ∧ VX.ownsRow B3 3 1 (.slice A21 M1.length c21) M1.length ((List.replicate M1.length (0 : Int)).map (.int .i64)) ∧ VX.ownsRow B3 31 6 (.slice A8 L.length c8) L.length (recCells L) ∧ ApartD (.slice A20 M1.length c20) (.slice A21 M1.length c21) ∧ VX.heap[XB]? = some (.cells #[.int .i64 r.mac, .int .i64 r.seq, .int .i64 r.min, .int .u8 r.kind, .int .i64 r.a, .int .i64 r.b] 31 (0, 0)))) ⟨below_drewN HB.out _, own_below H6.out (below_drewN (Below.refl _ _) _), own_below H7.out (below_drewN (Below.refl _ _) _), own_below H8.out (below_drewN (Below.refl _ _) _), HA.out, HX.out⟩ (fun VX hV => ?_)
                    clear x0 x1 x2 x3 x4 x5
                    obtain ⟨qb, q6, q7, q8, qa, qx⟩ := hV
                    have HB := Lib.hid qb
                    have H6 := Lib.hid q6
                    have H7 := Lib.hid q7
                    have H8 := Lib.hid q8
                    have HA := Lib.hid qa
                    have HX := Lib.hid qx
                    clear qb q6 q7 q8 qa qx
                    have gx := box_cells HX.out
                    have x0 := gx 0
                    have x1 := gx 1
                    have x2 := gx 2
                    have x3 := gx 3
                    have x4 := gx 4
                    have x5 := gx 5
                    simp only [List.getElem?_toArray, List.getElem?_cons_zero, List.getElem?_cons_succ] at x0 x1 x2 x3 x4 x5
                    clear gx
                    go_wp2_with (at_builtin; go_loud (refine wpList_append_src _ rfl (.tmp 111) (.tmp 113) 22 rfl B3 31 iR _ 6 48 Tryz.underlying22 hiR hzR0 hzR1 hzR2 rfl (by omega) _ L.length _ rfl (H8.out.alloc _) (some ⟨VX.heap.size, 0, none⟩) 1 1 (recC r) rfl (src_new VX (recC r) 31 1 6 rfl) (by simp [recC, Value.oneCell']) (by simp [maxLen] <;> omega) (by omega) (by have := HB.out.size; have := HB3.out; simp; omega) ?_); intro v9 w9 hown9 hg9 hat9; have hb9 := below_grown (HB.out.alloc (by have := HB.out.size; have := HB3.out; omega) (.cells (recC r).toArray 31)) hg9 (by have := HB.out.size; have := HB3.out; simp; omega) (H8.out.alloc _) (Nat.le_refl _); have o6 := (H6.out.alloc (.cells (recC r).toArray 31)).kept hg9 (own_apart (H6.out.alloc _) (H8.out.alloc (.cells (recC r).toArray 31)) (by decide)); have o7 := (H7.out.alloc (.cells (recC r).toArray 31)).kept hg9 (own_apart (H7.out.alloc _) (H8.out.alloc (.cells (recC r).toArray 31)) (by decide)); obtain ⟨A9, c9, rfl⟩ := own_form hown9; have HW6 := Lib.hid o6; have HW7 := Lib.hid o7; have HW8 := Lib.hid hown9; have HB9 := Lib.hid hb9; clear hown9 hg9 hat9 hb9 o6 o7)
                    clear x0 x1 x2 x3 x4 x5
                    go_roundw
                    case rel =>
                      refine ⟨i + 1, A20, A21, A9, c20, c21, c9, by omega, by go_num, by rw [HM1.out], by rw [HM1.out], by rw [HL1.out, if_pos HKP.out]; first | rfl | simp, by rw [Hco.out], HB9.out, ?_, ?_, ?_, ?_⟩
                      · rw [HM1.out]; exact HW6.out
                      · rw [HM1.out]; exact HW7.out
                      · rw [HL1.out, if_pos HKP.out]; exact by rw [List.length_append, recCells_snoc]; exact HW8.out
                      · rw [HM1.out]; exact HA.out
                    case measure => simp [intOf]; omega
                  · have hbit2 : ((bits / 2 ^ (i % 64)).tmod 2 == 0) = false := by simpa using hbit
                    have HKP := Lib.hid (show ¬ (r.kind ≠ 0 ∨ p i = true) from fun h => by
                      rcases h with h | h
                      · exact h K0.out
                      · rw [hp] at h; exact hbit h)
                    clear hbit
                    go_quiet (fail)
                    go_upto_region 9 with (fail)
                    refine wp_name (fun VX => (Below B3 w3 VX ∧ VX.ownsRow B3 3 1 (.slice A20 M1.length c20) M1.length (M1.map (.int .i64)) ∧ VX.ownsRow B3 3 1 (.slice A21 M1.length c21) M1.length ((List.replicate M1.length (0 : Int)).map (.int .i64)) ∧ VX.ownsRow B3 31 6 (.slice A8 L.length c8) L.length (recCells L) ∧ ApartD (.slice A20 M1.length c20) (.slice A21 M1.length c21) ∧ VX.heap[XB]? = some (.cells #[.int .i64 r.mac, .int .i64 r.seq, .int .i64 r.min, .int .u8 r.kind, .int .i64 r.a, .int .i64 r.b] 31 (0, 0)))) ⟨below_drewN HB.out _, own_below H6.out (below_drewN (Below.refl _ _) _), own_below H7.out (below_drewN (Below.refl _ _) _), own_below H8.out (below_drewN (Below.refl _ _) _), HA.out, HX.out⟩ (fun VX hV => ?_)
                    clear x0 x1 x2 x3 x4 x5
                    obtain ⟨qb, q6, q7, q8, qa, qx⟩ := hV
                    have HB := Lib.hid qb
                    have H6 := Lib.hid q6
                    have H7 := Lib.hid q7
                    have H8 := Lib.hid q8
                    have HA := Lib.hid qa
                    have HX := Lib.hid qx
                    clear qb q6 q7 q8 qa qx
                    have gx := box_cells HX.out
                    have x0 := gx 0
                    have x1 := gx 1
                    have x2 := gx 2
                    have x3 := gx 3
                    have x4 := gx 4
                    have x5 := gx 5
                    simp only [List.getElem?_toArray, List.getElem?_cons_zero, List.getElem?_cons_succ] at x0 x1 x2 x3 x4 x5
                    clear gx
                    clear x0 x1 x2 x3 x4 x5
                    go_wp2
                    go_roundw
                    case rel => exact ⟨i + 1, A20, A21, A8, c20, c21, c8, by omega, by go_num, by rw [HM1.out], by rw [HM1.out], by rw [HL1.out, if_neg HKP.out, List.append_nil], by rw [Hco.out], HB.out, by rw [HM1.out]; exact H6.out, by rw [HM1.out]; exact H7.out, by rw [HL1.out, if_neg HKP.out, List.append_nil]; exact H8.out, by rw [HM1.out]; exact HA.out⟩
                    case measure => simp [intOf]; omega
                · have k0b : (r.kind != 0) = true := by simpa using k0
                  have HKP := Lib.hid (show r.kind ≠ 0 ∨ p i = true from .inl k0)
                  by_cases k2 : r.kind = 2
                  · have k2b : (r.kind == 2) = true := by simpa using k2
                    have hbb : 0 ≤ r.b ∧ r.b ≤ 10000000 := by rcases hokr.kind with h | h | h <;> omega
                    have K2 := Lib.hid k2
                    clear k0 k2
                    by_cases hlast : i + 1 = N
                    · have hn : C[i + 1]? = none := List.getElem?_eq_none (by rw [HlenC.out]; omega)
                      have Hco := Lib.hid (show coinF C - coinF (C.drop (i + 1)) = coinF C - coinF (C.drop i) + r.b by rw [Hcod.out, hn, if_pos ⟨K2.out, by simp⟩]; omega)
                      have q1 : IntKind.i64.wrap ((N : Int) - 1) = (i : Int) := by rw [IntWalk.i64_in _ (by omega)]; omega
                      have q2 : (N : Int) - 1 = (i : Int) := by omega
                      have q3 : ((i : Int) == (i : Int)) = true := by simp
                      clear hn hlast
                      go_quiet (fail)
                      go_upto_region 16 with (fail)
                      refine wp_name (fun VX => (Below B3 w3 VX ∧ VX.ownsRow B3 3 1 (.slice A20 M1.length c20) M1.length (M1.map (.int .i64)) ∧ VX.ownsRow B3 3 1 (.slice A21 M1.length c21) M1.length ((List.replicate M1.length (0 : Int)).map (.int .i64)) ∧ VX.ownsRow B3 31 6 (.slice A8 L.length c8) L.length (recCells L) ∧ ApartD (.slice A20 M1.length c20) (.slice A21 M1.length c21) ∧ VX.heap[XB]? = some (.cells #[.int .i64 r.mac, .int .i64 r.seq, .int .i64 r.min, .int .u8 r.kind, .int .i64 r.a, .int .i64 r.b] 31 (0, 0)))) ⟨below_drewN HB.out _, own_below H6.out (below_drewN (Below.refl _ _) _), own_below H7.out (below_drewN (Below.refl _ _) _), own_below H8.out (below_drewN (Below.refl _ _) _), HA.out, HX.out⟩ (fun VX hV => ?_)
                      clear x0 x1 x2 x3 x4 x5
                      obtain ⟨qb, q6, q7, q8, qa, qx⟩ := hV
                      have HB := Lib.hid qb
                      have H6 := Lib.hid q6
                      have H7 := Lib.hid q7
                      have H8 := Lib.hid q8
                      have HA := Lib.hid qa
                      have HX := Lib.hid qx
                      clear qb q6 q7 q8 qa qx
                      have gx := box_cells HX.out
                      have x0 := gx 0
                      have x1 := gx 1
                      have x2 := gx 2
                      have x3 := gx 3
                      have x4 := gx 4
                      have x5 := gx 5
                      simp only [List.getElem?_toArray, List.getElem?_cons_zero, List.getElem?_cons_succ] at x0 x1 x2 x3 x4 x5
                      clear gx
                      go_wp2_with (at_builtin; go_loud (refine wpList_append_src _ rfl (.tmp 111) (.tmp 113) 22 rfl B3 31 iR _ 6 48 Tryz.underlying22 hiR hzR0 hzR1 hzR2 rfl (by omega) _ L.length _ rfl (H8.out.alloc _) (some ⟨VX.heap.size, 0, none⟩) 1 1 (recC r) rfl (src_new VX (recC r) 31 1 6 rfl) (by simp [recC, Value.oneCell']) (by simp [maxLen] <;> omega) (by omega) (by have := HB.out.size; have := HB3.out; simp; omega) ?_); intro v9 w9 hown9 hg9 hat9; have hb9 := below_grown (HB.out.alloc (by have := HB.out.size; have := HB3.out; omega) (.cells (recC r).toArray 31)) hg9 (by have := HB.out.size; have := HB3.out; simp; omega) (H8.out.alloc _) (Nat.le_refl _); have o6 := (H6.out.alloc (.cells (recC r).toArray 31)).kept hg9 (own_apart (H6.out.alloc _) (H8.out.alloc (.cells (recC r).toArray 31)) (by decide)); have o7 := (H7.out.alloc (.cells (recC r).toArray 31)).kept hg9 (own_apart (H7.out.alloc _) (H8.out.alloc (.cells (recC r).toArray 31)) (by decide)); obtain ⟨A9, c9, rfl⟩ := own_form hown9; have HW6 := Lib.hid o6; have HW7 := Lib.hid o7; have HW8 := Lib.hid hown9; have HB9 := Lib.hid hb9; clear hown9 hg9 hat9 hb9 o6 o7)
                      clear x0 x1 x2 x3 x4 x5
                      go_roundw
                      case rel =>
                        refine ⟨i + 1, A20, A21, A9, c20, c21, c9, by omega, by go_num, by rw [HM1.out], by rw [HM1.out], by rw [HL1.out, if_pos HKP.out]; first | rfl | simp, by rw [Hco.out], HB9.out, ?_, ?_, ?_, ?_⟩
                        · rw [HM1.out]; exact HW6.out
                        · rw [HM1.out]; exact HW7.out
                        · rw [HL1.out, if_pos HKP.out]; exact by rw [List.length_append, recCells_snoc]; exact HW8.out
                        · rw [HM1.out]; exact HA.out
                      case measure => simp [intOf]; omega
                    · have hrec := Hrec.out.below (by rw [HB3.out]; exact HB.out)
                      rw [← HlenC.out] at hrec
                      obtain ⟨b4, o4, z, e, hz, z0, z1, z2, z3, z4, z5, _⟩ := hrec.at_ (k := i + 1) (by rw [HlenC.out]; omega)
                      cases e
                      have q2 : (N : Int) - 1 ≠ (i : Int) := by omega
                      have q3 : ((i : Int) == (N : Int) - 1) = false := by simp; omega
                      have q4 : IntKind.i64.wrap ((i : Int) + 1) = ((i + 1 : Nat) : Int) := by rw [IntWalk.i64_in _ (by omega)]; omega
                      have q5 : ((i + 1 : Nat) : Int) < (N : Int) := by omega
                      clear hrec hlast z1 z2 z3 z4 z5
                      by_cases hzm : z.mac = r.mac
                      · have m1 : (z.mac != r.mac) = false := by simp [hzm]
                        have Hco := Lib.hid (show coinF C - coinF (C.drop (i + 1)) = coinF C - coinF (C.drop i) by rw [Hcod.out, hz, if_neg (fun h => h.2 (by simp [hzm])), Int.zero_add])
                        clear hz hzm
                        go_quiet (fail)
                        go_upto_region 16 with (fail)
                        refine wp_name (fun VX => (Below B3 w3 VX ∧ VX.ownsRow B3 3 1 (.slice A20 M1.length c20) M1.length (M1.map (.int .i64)) ∧ VX.ownsRow B3 3 1 (.slice A21 M1.length c21) M1.length ((List.replicate M1.length (0 : Int)).map (.int .i64)) ∧ VX.ownsRow B3 31 6 (.slice A8 L.length c8) L.length (recCells L) ∧ ApartD (.slice A20 M1.length c20) (.slice A21 M1.length c21) ∧ VX.heap[XB]? = some (.cells #[.int .i64 r.mac, .int .i64 r.seq, .int .i64 r.min, .int .u8 r.kind, .int .i64 r.a, .int .i64 r.b] 31 (0, 0)))) ⟨below_drewN HB.out _, own_below H6.out (below_drewN (Below.refl _ _) _), own_below H7.out (below_drewN (Below.refl _ _) _), own_below H8.out (below_drewN (Below.refl _ _) _), HA.out, HX.out⟩ (fun VX hV => ?_)
                        clear x0 x1 x2 x3 x4 x5
                        obtain ⟨qb, q6, q7, q8, qa, qx⟩ := hV
                        have HB := Lib.hid qb
                        have H6 := Lib.hid q6
                        have H7 := Lib.hid q7
                        have H8 := Lib.hid q8
                        have HA := Lib.hid qa
                        have HX := Lib.hid qx
                        clear qb q6 q7 q8 qa qx
                        have gx := box_cells HX.out
                        have x0 := gx 0
                        have x1 := gx 1
                        have x2 := gx 2
                        have x3 := gx 3
                        have x4 := gx 4
                        have x5 := gx 5
                        simp only [List.getElem?_toArray, List.getElem?_cons_zero, List.getElem?_cons_succ] at x0 x1 x2 x3 x4 x5
                        clear gx
                        go_wp2_with (at_builtin; go_loud (refine wpList_append_src _ rfl (.tmp 111) (.tmp 113) 22 rfl B3 31 iR _ 6 48 Tryz.underlying22 hiR hzR0 hzR1 hzR2 rfl (by omega) _ L.length _ rfl (H8.out.alloc _) (some ⟨VX.heap.size, 0, none⟩) 1 1 (recC r) rfl (src_new VX (recC r) 31 1 6 rfl) (by simp [recC, Value.oneCell']) (by simp [maxLen] <;> omega) (by omega) (by have := HB.out.size; have := HB3.out; simp; omega) ?_); intro v9 w9 hown9 hg9 hat9; have hb9 := below_grown (HB.out.alloc (by have := HB.out.size; have := HB3.out; omega) (.cells (recC r).toArray 31)) hg9 (by have := HB.out.size; have := HB3.out; simp; omega) (H8.out.alloc _) (Nat.le_refl _); have o6 := (H6.out.alloc (.cells (recC r).toArray 31)).kept hg9 (own_apart (H6.out.alloc _) (H8.out.alloc (.cells (recC r).toArray 31)) (by decide)); have o7 := (H7.out.alloc (.cells (recC r).toArray 31)).kept hg9 (own_apart (H7.out.alloc _) (H8.out.alloc (.cells (recC r).toArray 31)) (by decide)); obtain ⟨A9, c9, rfl⟩ := own_form hown9; have HW6 := Lib.hid o6; have HW7 := Lib.hid o7; have HW8 := Lib.hid hown9; have HB9 := Lib.hid hb9; clear hown9 hg9 hat9 hb9 o6 o7)
                        clear x0 x1 x2 x3 x4 x5
                        go_roundw
                        case rel =>
                          refine ⟨i + 1, A20, A21, A9, c20, c21, c9, by omega, by go_num, by rw [HM1.out], by rw [HM1.out], by rw [HL1.out, if_pos HKP.out]; first | rfl | simp, by rw [Hco.out], HB9.out, ?_, ?_, ?_, ?_⟩
                          · rw [HM1.out]; exact HW6.out
                          · rw [HM1.out]; exact HW7.out
                          · rw [HL1.out, if_pos HKP.out]; exact by rw [List.length_append, recCells_snoc]; exact HW8.out
                          · rw [HM1.out]; exact HA.out
                        case measure => simp [intOf]; omega
                      · have m1 : (z.mac != r.mac) = true := by simpa using hzm
                        have Hco := Lib.hid (show coinF C - coinF (C.drop (i + 1)) = coinF C - coinF (C.drop i) + r.b by rw [Hcod.out, hz, if_pos ⟨K2.out, fun h => hzm (by simpa using h)⟩]; omega)
                        clear hz hzm
                        go_quiet (fail)
                        go_upto_region 16 with (fail)
                        refine wp_name (fun VX => (Below B3 w3 VX ∧ VX.ownsRow B3 3 1 (.slice A20 M1.length c20) M1.length (M1.map (.int .i64)) ∧ VX.ownsRow B3 3 1 (.slice A21 M1.length c21) M1.length ((List.replicate M1.length (0 : Int)).map (.int .i64)) ∧ VX.ownsRow B3 31 6 (.slice A8 L.length c8) L.length (recCells L) ∧ ApartD (.slice A20 M1.length c20) (.slice A21 M1.length c21) ∧ VX.heap[XB]? = some (.cells #[.int .i64 r.mac, .int .i64 r.seq, .int .i64 r.min, .int .u8 r.kind, .int .i64 r.a, .int .i64 r.b] 31 (0, 0)))) ⟨below_drewN HB.out _, own_below H6.out (below_drewN (Below.refl _ _) _), own_below H7.out (below_drewN (Below.refl _ _) _), own_below H8.out (below_drewN (Below.refl _ _) _), HA.out, HX.out⟩ (fun VX hV => ?_)
                        clear x0 x1 x2 x3 x4 x5
                        obtain ⟨qb, q6, q7, q8, qa, qx⟩ := hV
                        have HB := Lib.hid qb
                        have H6 := Lib.hid q6
                        have H7 := Lib.hid q7
                        have H8 := Lib.hid q8
                        have HA := Lib.hid qa
                        have HX := Lib.hid qx
                        clear qb q6 q7 q8 qa qx
                        have gx := box_cells HX.out
                        have x0 := gx 0
                        have x1 := gx 1
                        have x2 := gx 2
                        have x3 := gx 3
                        have x4 := gx 4
                        have x5 := gx 5
                        simp only [List.getElem?_toArray, List.getElem?_cons_zero, List.getElem?_cons_succ] at x0 x1 x2 x3 x4 x5
                        clear gx
                        go_wp2_with (at_builtin; go_loud (refine wpList_append_src _ rfl (.tmp 111) (.tmp 113) 22 rfl B3 31 iR _ 6 48 Tryz.underlying22 hiR hzR0 hzR1 hzR2 rfl (by omega) _ L.length _ rfl (H8.out.alloc _) (some ⟨VX.heap.size, 0, none⟩) 1 1 (recC r) rfl (src_new VX (recC r) 31 1 6 rfl) (by simp [recC, Value.oneCell']) (by simp [maxLen] <;> omega) (by omega) (by have := HB.out.size; have := HB3.out; simp; omega) ?_); intro v9 w9 hown9 hg9 hat9; have hb9 := below_grown (HB.out.alloc (by have := HB.out.size; have := HB3.out; omega) (.cells (recC r).toArray 31)) hg9 (by have := HB.out.size; have := HB3.out; simp; omega) (H8.out.alloc _) (Nat.le_refl _); have o6 := (H6.out.alloc (.cells (recC r).toArray 31)).kept hg9 (own_apart (H6.out.alloc _) (H8.out.alloc (.cells (recC r).toArray 31)) (by decide)); have o7 := (H7.out.alloc (.cells (recC r).toArray 31)).kept hg9 (own_apart (H7.out.alloc _) (H8.out.alloc (.cells (recC r).toArray 31)) (by decide)); obtain ⟨A9, c9, rfl⟩ := own_form hown9; have HW6 := Lib.hid o6; have HW7 := Lib.hid o7; have HW8 := Lib.hid hown9; have HB9 := Lib.hid hb9; clear hown9 hg9 hat9 hb9 o6 o7)
                        clear x0 x1 x2 x3 x4 x5
                        go_roundw
                        case rel =>
                          refine ⟨i + 1, A20, A21, A9, c20, c21, c9, by omega, by go_num, by rw [HM1.out], by rw [HM1.out], by rw [HL1.out, if_pos HKP.out]; first | rfl | simp, by rw [Hco.out], HB9.out, ?_, ?_, ?_, ?_⟩
                          · rw [HM1.out]; exact HW6.out
                          · rw [HM1.out]; exact HW7.out
                          · rw [HL1.out, if_pos HKP.out]; exact by rw [List.length_append, recCells_snoc]; exact HW8.out
                          · rw [HM1.out]; exact HA.out
                        case measure => simp [intOf]; omega
                  · have k2b : (r.kind == 2) = false := by simpa using k2
                    have Hco := Lib.hid (show coinF C - coinF (C.drop (i + 1)) = coinF C - coinF (C.drop i) by rw [Hcod.out, if_neg (fun h => k2 h.1), Int.zero_add])
                    clear k0 k2
                    go_quiet (fail)
                    go_upto_region 16 with (fail)
                    refine wp_name (fun VX => (Below B3 w3 VX ∧ VX.ownsRow B3 3 1 (.slice A20 M1.length c20) M1.length (M1.map (.int .i64)) ∧ VX.ownsRow B3 3 1 (.slice A21 M1.length c21) M1.length ((List.replicate M1.length (0 : Int)).map (.int .i64)) ∧ VX.ownsRow B3 31 6 (.slice A8 L.length c8) L.length (recCells L) ∧ ApartD (.slice A20 M1.length c20) (.slice A21 M1.length c21) ∧ VX.heap[XB]? = some (.cells #[.int .i64 r.mac, .int .i64 r.seq, .int .i64 r.min, .int .u8 r.kind, .int .i64 r.a, .int .i64 r.b] 31 (0, 0)))) ⟨below_drewN HB.out _, own_below H6.out (below_drewN (Below.refl _ _) _), own_below H7.out (below_drewN (Below.refl _ _) _), own_below H8.out (below_drewN (Below.refl _ _) _), HA.out, HX.out⟩ (fun VX hV => ?_)
                    clear x0 x1 x2 x3 x4 x5
                    obtain ⟨qb, q6, q7, q8, qa, qx⟩ := hV
                    have HB := Lib.hid qb
                    have H6 := Lib.hid q6
                    have H7 := Lib.hid q7
                    have H8 := Lib.hid q8
                    have HA := Lib.hid qa
                    have HX := Lib.hid qx
                    clear qb q6 q7 q8 qa qx
                    have gx := box_cells HX.out
                    have x0 := gx 0
                    have x1 := gx 1
                    have x2 := gx 2
                    have x3 := gx 3
                    have x4 := gx 4
                    have x5 := gx 5
                    simp only [List.getElem?_toArray, List.getElem?_cons_zero, List.getElem?_cons_succ] at x0 x1 x2 x3 x4 x5
                    clear gx
                    go_wp2_with (at_builtin; go_loud (refine wpList_append_src _ rfl (.tmp 111) (.tmp 113) 22 rfl B3 31 iR _ 6 48 Tryz.underlying22 hiR hzR0 hzR1 hzR2 rfl (by omega) _ L.length _ rfl (H8.out.alloc _) (some ⟨VX.heap.size, 0, none⟩) 1 1 (recC r) rfl (src_new VX (recC r) 31 1 6 rfl) (by simp [recC, Value.oneCell']) (by simp [maxLen] <;> omega) (by omega) (by have := HB.out.size; have := HB3.out; simp; omega) ?_); intro v9 w9 hown9 hg9 hat9; have hb9 := below_grown (HB.out.alloc (by have := HB.out.size; have := HB3.out; omega) (.cells (recC r).toArray 31)) hg9 (by have := HB.out.size; have := HB3.out; simp; omega) (H8.out.alloc _) (Nat.le_refl _); have o6 := (H6.out.alloc (.cells (recC r).toArray 31)).kept hg9 (own_apart (H6.out.alloc _) (H8.out.alloc (.cells (recC r).toArray 31)) (by decide)); have o7 := (H7.out.alloc (.cells (recC r).toArray 31)).kept hg9 (own_apart (H7.out.alloc _) (H8.out.alloc (.cells (recC r).toArray 31)) (by decide)); obtain ⟨A9, c9, rfl⟩ := own_form hown9; have HW6 := Lib.hid o6; have HW7 := Lib.hid o7; have HW8 := Lib.hid hown9; have HB9 := Lib.hid hb9; clear hown9 hg9 hat9 hb9 o6 o7)
                    clear x0 x1 x2 x3 x4 x5
                    go_roundw
                    case rel =>
                      refine ⟨i + 1, A20, A21, A9, c20, c21, c9, by omega, by go_num, by rw [HM1.out], by rw [HM1.out], by rw [HL1.out, if_pos HKP.out]; first | rfl | simp, by rw [Hco.out], HB9.out, ?_, ?_, ?_, ?_⟩
                      · rw [HM1.out]; exact HW6.out
                      · rw [HM1.out]; exact HW7.out
                      · rw [HL1.out, if_pos HKP.out]; exact by rw [List.length_append, recCells_snoc]; exact HW8.out
                      · rw [HM1.out]; exact HA.out
                    case measure => simp [intOf]; omega
          · obtain rfl : i = N := by omega
            have htC : C.take i = C := List.take_of_length_le (by rw [HlenC.out]; exact Nat.le_refl _)
            have hdC : C.drop i = [] := List.drop_eq_nil_of_le (by rw [HlenC.out]; exact Nat.le_refl _)
            rw [htC] at Hm Hs Hle Hap ⊢
            rw [hdC]
            have hc0 : coinF C - coinF [] = coinF C := by simp [coinF]
            rw [hc0]
            obtain ⟨M, hM⟩ : ∃ M, macsL none C = M := ⟨_, rfl⟩
            obtain ⟨L, hL⟩ : ∃ L, keepL p 0 C = L := ⟨_, rfl⟩
            rw [hM] at Hm Hs Hap ⊢
            rw [hL] at Hle ⊢
            have hLsub : ∀ r ∈ L, r ∈ C := fun r hr => by rw [← hL] at hr; exact (keep_sub p C 0).subset hr
            have hLok : ∀ r ∈ L, RcOk r := fun r hr => HokC.out r (hLsub r hr)
            have hLpw : L.Pairwise Rlt := by rw [← hL]; exact List.Pairwise.sublist (keep_sub p C 0) HpwC.out
            have hLlen : L.length ≤ 60 := by rw [← hL]; exact Nat.le_trans (keep_sub p C 0).length_le (by rw [HlenC.out]; exact hF60)
            have hkept := kept_all HF.out.1 HF.out.2.2 p
            have hfound := fun m => found_ok HF.out.1 HF.out.2.2 p m
            have hvb := fun m => val_bd HF.out.1 HF.out.2.1 m
            have hcs := coin_sum HF.out.2.2
            rw [HC.out] at hkept hfound hvb hcs
            rw [hL] at hkept hfound
            rw [hM] at hcs
            have hdiv := fun h1 h5 => div_ok HF.out.1 HF.out.2.1 HF.out.2.2 h1 h5
            rw [HC.out, hM] at hdiv
            have Hdiv := Lib.hid hdiv
            have Hfound := Lib.hid hfound
            have Hvb := Lib.hid hvb
            have Hcs := Lib.hid hcs
            have Hcan := Lib.hid hkept.1
            have HLok := Lib.hid hLok
            have HLpw := Lib.hid hLpw
            obtain ⟨S, hS⟩ : ∃ S, strL none (zeroR 0) [] L = S := ⟨_, rfl⟩
            have hSlen : S.length ≤ 60 := by rw [← hS]; exact Nat.le_trans (strL_len L none (zeroR 0) []) hLlen
            have HS := Lib.hid hS
            obtain ⟨lk, hlk⟩ : ∃ lk, lacksL S = lk := ⟨_, rfl⟩
            have Hlk := Lib.hid hlk
            have hlklen : lk.length ≤ 60 := by rw [← hlk]; exact Nat.le_trans (lacksL_len S) hSlen
            have HM := Lib.hid hM
            have HL := Lib.hid hL
            obtain ⟨n5, hn5⟩ : ∃ n5, M.length = n5 := ⟨_, rfl⟩
            have Hn5 := Lib.hid hn5
            rw [hn5] at Hm Hs Hap ⊢
            have hBo : B3 ≤ wo.heap.size := by have := Hbr.out.size; have := HB3.out; omega
            have hw3 : w.heap.size ≤ B3 := by have := H3.out.size; have := HB3.out; omega
            have hwo : w.heap.size ≤ wo.heap.size := Nat.le_trans hw3 hBo
            clear htC hdC hc0 hM hL hLsub hLok hLpw hkept hfound hvb hcs hdiv hS hlk hn5
            by_cases hn0 : n5 = 0
            · have e0 : ((n5 : Int) == 0) = true := by simp [hn0]
              go_wp2_with fail
              refine (tells_any _).mono ?_
              rintro e w4 ⟨rfl, hb4⟩
              go_wp2
              go_ret
              exact ⟨rfl, (H3.out.trans (Hbr.out.mono hw3)).trans (hb4.mono hwo)⟩
            · have e0 : ((n5 : Int) == 0) = false := by simpa using hn0
              have e0b : (n5 == 0) = false := by simpa using hn0
              by_cases hn6 : 5 < n5
              · have e5 : (5 : Int) < (n5 : Int) := by omega
                go_wp2_with fail
                refine (tells_any _).mono ?_
                rintro e w4 ⟨rfl, hb4⟩
                go_wp2
                go_ret
                exact ⟨rfl, (H3.out.trans (Hbr.out.mono hw3)).trans (hb4.mono hwo)⟩
              · have e5 : ¬ (5 : Int) < (n5 : Int) := by omega
                have hDiv := Hdiv.out (by rw [Hn5.out]; exact hn0) (by rw [Hn5.out]; omega)
                have HDiv := Lib.hid hDiv
                clear hDiv Hdiv
                go_wp2_with fail
                refine (Records_any _ L _ (recs_of_own Hle.out) (by omega)).mono ?_
                rintro e w4 ⟨A4, c4, rfl, hown4, hb4⟩
                have hrec4 := recs_of_own hown4
                have H4 := Lib.hid (Hbr.out.trans (hb4.mono hBo))
                have J6 := Lib.hid (own_below Hm.out hb4)
                have J7 := Lib.hid (own_below Hs.out hb4)
                have J8 := Lib.hid (own_below Hle.out hb4)
                have hB4 : B3 ≤ w4.heap.size := Nat.le_trans hBo hb4.size
                have Hrec4 := Lib.hid hrec4
                clear hown4 hb4 hrec4 Hm Hs Hle Hbr
                go_wp2_with fail
                refine (Lacks_ok _ L _ Hrec4.out hLlen HLok.out HLpw.out Hcan.out).mono ?_
                rintro e w5 ⟨A12, c12, rfl, hown12, hb5⟩
                rw [HS.out, Hlk.out] at hown12 ⊢
                have H5 := Lib.hid (H4.out.trans (hb5.mono hB4))
                have P6 := Lib.hid (own_below J6.out hb5)
                have P7 := Lib.hid (own_below J7.out hb5)
                have P8 := Lib.hid (own_below J8.out hb5)
                have hB5 : B3 ≤ w5.heap.size := Nat.le_trans hB4 hb5.size
                have P12 := Lib.hid (own_mono hown12 hB4)
                clear hown12 hb5 J6 J7 J8 Hrec4 H4
                have HLkB := Lib.hid (show ∀ x ∈ lk, LkB x by rw [← Hlk.out, ← HS.out]; exact lacks_bd HLok.out Hcan.out)
                have hfo : ∀ m, FoundOk C L lk m := by rw [← Hlk.out, ← HS.out]; exact Hfound.out
                have HF2 := Lib.hid hfo
                have Hrec5 := Lib.hid (Hrec.out.below (by rw [HB3.out]; exact H5.out))
                clear hfo Hfound HLpw Hcan HS Hlk HM HL hSlen S hw3 hwo hBo hB4 e0 e0b e5
                obtain ⟨wb, hwb⟩ : ∃ wb : World, wb = w5 := ⟨_, rfl⟩
                rw [← hwb] at H5 P6 P7 P8 P12 Hrec5 hB5 ⊢
                clear hwb
                have hp7 : wb.ownsRow B3 3 1 (.slice A7 n5 c7) n5 ((salesL M (valA C) 0).map (.int .i64)) := by rw [salesL_start, Hn5.out]; exact P7.out
                have Q7 := Lib.hid hp7
                clear hp7 P7
                obtain ⟨g6, rfl, hg6, hg6l⟩ := own_some P6.out (by omega)
                obtain ⟨g7, rfl, hg7, hg7l⟩ := own_some Q7.out (by omega)
                have Hne := Lib.hid (ne_of_apart Hap.out rfl : (Value.slice (some ⟨g6, 0, none⟩) n5 c6).ownBlock ≠ some g7)
                go_wp2
                go_loopw [14, 15] (fun fo ix wr => ∃ k : Nat, k ≤ n5 ∧ ix = .int .i64 (k : Int) ∧ fo = .int .i64 (sumK ((M.map (valB C)).take k)) ∧ Below B3 w3 wr ∧ wr.ownsRow B3 3 1 (.slice (some ⟨g6, 0, none⟩) n5 c6) n5 (M.map (.int .i64)) ∧ wr.ownsRow B3 3 1 (.slice (some ⟨g7, 0, none⟩) n5 c7) n5 ((salesL M (valA C) k).map (.int .i64)) ∧ wr.ownsRow B3 31 6 (.slice A8 L.length c8) L.length (recCells L) ∧ wr.ownsRow B3 40 5 (.slice A12 lk.length c12) lk.length (lkCells lk)) (fun fo ix wr => n5 - (intOf ix).toNat)
                case atStart => exact ⟨0, by omega, rfl, rfl, H5.out, P6.out, Q7.out, P8.out, P12.out⟩
                case round =>
                  clear H5 P6 Q7 P8 P12 Hrec5 hB5 hg6l hg7l
                  obtain ⟨k, hk, rfl, rfl, hbk, h6, h7, h8, h12⟩ := hrel
                  obtain ⟨wk, rfl⟩ : ∃ wk : World, wk = wr := ⟨_, rfl⟩
                  have hBk : B3 ≤ wk.heap.size := by have := hbk.size; have := HB3.out; omega
                  have HBk := Lib.hid hbk
                  have H6 := Lib.hid h6
                  have H7 := Lib.hid h7
                  have H8 := Lib.hid h8
                  have H12 := Lib.hid h12
                  clear hbk h6 h7 h8 h12
                  by_cases hlt : k < n5
                  · have p0 : (k : Int) < (n5 : Int) := by omega
                    obtain ⟨m, hm⟩ : ∃ m, M[k]? = some m := ⟨_, List.getElem?_eq_getElem (by rw [Hn5.out]; exact hlt)⟩
                    have y0 := H6.out.cellAt k (by omega)
                    rw [List.getElem?_map, hm, Option.map_some] at y0
                    have Hm := Lib.hid hm
                    have Y0 := Lib.hid y0
                    clear hm y0
                    go_wp2
                    go_loopw [16, 17, 18, 19] (fun cl kn so ix wr => ∃ q : Nat, q ≤ L.length ∧ ix = .int .i64 (q : Int) ∧ cl = .bool (closedB m (L.take q)) ∧ kn = .int .i64 (knC m (L.take q)) ∧ so = .int .i64 (knN m (L.take q)) ∧ Below wk.heap.size wk wr) (fun cl kn so ix wr => L.length - (intOf ix).toNat)
                    case atStart => exact ⟨0, by omega, rfl, rfl, rfl, rfl, Below.refl _ _⟩
                    case round =>
                      obtain ⟨q, hq, rfl, rfl, rfl, rfl, hbq⟩ := hrel
                      obtain ⟨wq, rfl⟩ : ∃ wq : World, wq = wr := ⟨_, rfl⟩
                      have hBq := hbq.size
                      have HBq := Lib.hid hbq
                      clear hbq
                      by_cases hqlt : q < L.length
                      · obtain ⟨b8, o8, r, e, hr, x0, x1, x2, x3, x4, x5, _⟩ := (recs_of_own (own_below H8.out HBq.out)).at_ (k := q) hqlt
                        cases e
                        have y1 := cell_below HBq.out Y0.out
                        have q0 : (q : Int) < (L.length : Int) := by omega
                        have hst : L.take (q + 1) = L.take q ++ [r] := by rw [List.take_add_one, hr]; rfl
                        have hC1 : closedB m (L.take (q + 1)) = if r.mac = m then decide (r.kind = 2) else closedB m (L.take q) := by rw [hst, closedB_snoc]
                        have hC2 : knC m (L.take (q + 1)) = knC m (L.take q) + if r.mac = m ∧ r.kind = 0 then r.b else 0 := by rw [hst, knC_snoc]
                        have hC3 : knN m (L.take (q + 1)) = knN m (L.take q) + if r.mac = m ∧ r.kind = 0 then 1 else 0 := by rw [hst, knN_snoc]
                        have hbd := kn_bd m (L.take q) (fun s hs => HLok.out s (List.mem_of_mem_take hs))
                        have htl : (L.take q).length ≤ 60 := by rw [List.length_take]; omega
                        have hkb := (HLok.out r (List.mem_of_getElem? hr)).kind
                        obtain ⟨cb, hcb2⟩ : ∃ cb, closedB m (L.take q) = cb := ⟨_, rfl⟩
                        obtain ⟨kc, hkc⟩ : ∃ kc, knC m (L.take q) = kc := ⟨_, rfl⟩
                        obtain ⟨kn, hkn⟩ : ∃ kn, knN m (L.take q) = kn := ⟨_, rfl⟩
                        rw [hcb2] at hC1 ⊢
                        rw [hkc] at hC2 hbd ⊢
                        rw [hkn] at hC3 hbd ⊢
                        have hkc1 : 0 ≤ kc ∧ kc ≤ 600000 := by omega
                        have hkn1 : 0 ≤ kn ∧ kn ≤ 60 := by omega
                        clear hst hr hbd htl hcb2 hkc hkn x1 x2 x4
                        by_cases hmac : r.mac = m
                        · have m1 : (r.mac == m) = true := by simpa using hmac
                          rw [if_pos hmac] at hC1
                          by_cases k0 : r.kind = 0
                          · have k0b : (r.kind == 0) = true := by simpa using k0
                            have k2b : (r.kind == 2) = false := by rw [k0]; rfl
                            have k2d : decide (r.kind = 2) = false := by rw [k0]; rfl
                            rw [k2d] at hC1
                            rw [if_pos ⟨hmac, k0⟩] at hC2 hC3
                            have hrb : 0 ≤ r.b ∧ r.b ≤ 10000 := by omega
                            clear hmac k0 hkb k2d
                            have HC1 := Lib.hid hC1
                            have HC2 := Lib.hid hC2
                            have HC3 := Lib.hid hC3
                            clear hC1 hC2 hC3
                            go_upto_region 31 with (fail)
                            go_quiet (fail)
                            go_upto_region 32 with (fail)
                            refine wp_name (fun V => Below wq.heap.size wq V) (below_drewN (Below.refl _ _) _) (fun V hV => ?_)
                            have HV := Lib.hid (HBq.out.trans (hV.mono hBq))
                            have v3 := cell_below hV x3
                            have v5 := cell_below hV x5
                            clear hV x0 x3 x5 y1 m1
                            go_wp2
                            go_roundw
                            case rel => exact ⟨q + 1, by omega, by go_num, by rw [HC1.out], by rw [HC2.out], by rw [HC3.out], HV.out⟩
                            case measure => simp [intOf]; omega
                          · have k0b : (r.kind == 0) = false := by simpa using k0
                            rw [if_neg (fun h => k0 h.2), Int.add_zero] at hC2 hC3
                            by_cases k2 : r.kind = 2
                            · have k2b : (r.kind == 2) = true := by simpa using k2
                              have k2d : decide (r.kind = 2) = true := by simpa using k2
                              rw [k2d] at hC1
                              clear hmac k0 k2 hkb k2d
                              have HC1 := Lib.hid hC1
                              have HC2 := Lib.hid hC2
                              have HC3 := Lib.hid hC3
                              clear hC1 hC2 hC3
                              go_upto_region 31 with (fail)
                              go_quiet (fail)
                              go_upto_region 32 with (fail)
                              refine wp_name (fun V => Below wq.heap.size wq V) (below_drewN (Below.refl _ _) _) (fun V hV => ?_)
                              have HV := Lib.hid (HBq.out.trans (hV.mono hBq))
                              have v3 := cell_below hV x3
                              have v5 := cell_below hV x5
                              clear hV x0 x3 x5 y1 m1
                              go_wp2
                              go_roundw
                              case rel => exact ⟨q + 1, by omega, by go_num, by rw [HC1.out], by rw [HC2.out], by rw [HC3.out], HV.out⟩
                              case measure => simp [intOf]; omega
                            · have k2b : (r.kind == 2) = false := by simpa using k2
                              have k2d : decide (r.kind = 2) = false := by simpa using k2
                              rw [k2d] at hC1
                              clear hmac k0 k2 hkb k2d
                              have HC1 := Lib.hid hC1
                              have HC2 := Lib.hid hC2
                              have HC3 := Lib.hid hC3
                              clear hC1 hC2 hC3
                              go_upto_region 31 with (fail)
                              go_quiet (fail)
                              go_upto_region 32 with (fail)
                              refine wp_name (fun V => Below wq.heap.size wq V) (below_drewN (Below.refl _ _) _) (fun V hV => ?_)
                              have HV := Lib.hid (HBq.out.trans (hV.mono hBq))
                              have v3 := cell_below hV x3
                              have v5 := cell_below hV x5
                              clear hV x0 x3 x5 y1 m1
                              go_wp2
                              go_roundw
                              case rel => exact ⟨q + 1, by omega, by go_num, by rw [HC1.out], by rw [HC2.out], by rw [HC3.out], HV.out⟩
                              case measure => simp [intOf]; omega
                        · have m1 : (r.mac == m) = false := by simpa using hmac
                          rw [if_neg hmac] at hC1
                          rw [if_neg (fun h => hmac h.1), Int.add_zero] at hC2 hC3
                          clear hmac hkb
                          have HC1 := Lib.hid hC1
                          have HC2 := Lib.hid hC2
                          have HC3 := Lib.hid hC3
                          clear hC1 hC2 hC3
                          go_upto_region 31 with (fail)
                          go_quiet (fail)
                          go_upto_region 30 with (fail)
                          refine wp_name (fun V => Below wq.heap.size wq V) (below_drewN (Below.refl _ _) _) (fun V hV => ?_)
                          have HV := Lib.hid (HBq.out.trans (hV.mono hBq))
                          clear hV x0 x3 x5 y1 m1
                          go_wp2
                          go_roundw
                          case rel => exact ⟨q + 1, by omega, by go_num, by rw [HC1.out], by rw [HC2.out], by rw [HC3.out], HV.out⟩
                          case measure => simp [intOf]; omega
                      · obtain rfl : q = L.length := by omega
                        rw [List.take_length]
                        have hkb3 := kn_bd m L HLok.out
                        obtain ⟨kc, hkc⟩ : ∃ kc, knC m L = kc := ⟨_, rfl⟩
                        obtain ⟨kn, hkn⟩ : ∃ kn, knN m L = kn := ⟨_, rfl⟩
                        have Hkc := Lib.hid hkc
                        have Hkn := Lib.hid hkn
                        rw [hkc, hkn] at hkb3
                        rw [hkc, hkn]
                        have hkc1 : 0 ≤ kc ∧ kc ≤ 600000 := by omega
                        have hkn1 : 0 ≤ kn ∧ kn ≤ 60 := by omega
                        clear hkb3 hkc hkn
                        go_wp2
                        go_loopw [17, 18, 20] (fun kv so ix wr => ∃ q : Nat, q ≤ lk.length ∧ ix = .int .i64 (q : Int) ∧ kv = .int .i64 (kc + lcC m (lk.take q)) ∧ so = .int .i64 (kn + lcN m (lk.take q)) ∧ Below wk.heap.size wk wr) (fun kv so ix wr => lk.length - (intOf ix).toNat)
                        case atStart => exact ⟨0, by omega, rfl, by simp [lcC], by simp [lcN], HBq.out⟩
                        case round =>
                          clear HBq hBq
                          obtain ⟨q, hq, rfl, rfl, rfl, hbq⟩ := hrel
                          obtain ⟨wq, rfl⟩ : ∃ wq : World, wq = wr := ⟨_, rfl⟩
                          have hBq := hbq.size
                          have HBq := Lib.hid hbq
                          clear hbq
                          by_cases hqlt : q < lk.length
                          · obtain ⟨b8, o8, x, e, hr, x0, x3, x4⟩ := lk_at (own_below H12.out HBq.out) (k := q) hqlt
                            cases e
                            have y1 := cell_below HBq.out Y0.out
                            have q0 : (q : Int) < (lk.length : Int) := by omega
                            have hst : lk.take (q + 1) = lk.take q ++ [x] := by rw [List.take_add_one, hr]; rfl
                            have hC2 : kc + lcC m (lk.take (q + 1)) = kc + lcC m (lk.take q) + if x.mac = m then x.coins else 0 := by rw [hst, lcC_snoc, Int.add_assoc]
                            have hC3 : kn + lcN m (lk.take (q + 1)) = kn + lcN m (lk.take q) + if x.mac = m then x.sales else 0 := by rw [hst, lcN_snoc, Int.add_assoc]
                            have hbd := lc_bd m (lk.take q) (fun s hs => HLkB.out s (List.mem_of_mem_take hs))
                            have htl : (lk.take q).length ≤ 60 := by rw [List.length_take]; omega
                            have hxb := HLkB.out x (List.mem_of_getElem? hr)
                            have hx1 := hxb.sales
                            have hx2 := hxb.coins
                            obtain ⟨ic, hic⟩ : ∃ ic, kc + lcC m (lk.take q) = ic := ⟨_, rfl⟩
                            obtain ⟨jc, hjc⟩ : ∃ jc, kn + lcN m (lk.take q) = jc := ⟨_, rfl⟩
                            rw [hic] at hC2 ⊢
                            rw [hjc] at hC3 ⊢
                            have hic1 : 0 ≤ ic ∧ ic ≤ 6000000000 := by omega
                            have hjc1 : 0 ≤ jc ∧ jc ≤ 1000000 := by omega
                            clear hst hr hbd htl hic hjc hxb
                            by_cases hmac : x.mac = m
                            · have m1 : (x.mac == m) = true := by simpa using hmac
                              rw [if_pos hmac] at hC2 hC3
                              have HC2 := Lib.hid hC2
                              have HC3 := Lib.hid hC3
                              clear hmac hC2 hC3
                              go_upto_region 39 with (fail)
                              go_quiet (fail)
                              go_upto_region 40 with (fail)
                              refine wp_name (fun V => Below wq.heap.size wq V) (below_drewN (Below.refl _ _) _) (fun V hV => ?_)
                              have HV := Lib.hid (HBq.out.trans (hV.mono hBq))
                              have v3 := cell_below hV x3
                              have v4 := cell_below hV x4
                              clear hV x0 x3 x4 y1 m1
                              go_wp2
                              go_roundw
                              case rel => exact ⟨q + 1, by omega, by go_num, by rw [HC2.out], by rw [HC3.out], HV.out⟩
                              case measure => simp [intOf]; omega
                            · have m1 : (x.mac == m) = false := by simpa using hmac
                              rw [if_neg hmac, Int.add_zero] at hC2 hC3
                              have HC2 := Lib.hid hC2
                              have HC3 := Lib.hid hC3
                              clear hmac hC2 hC3
                              go_upto_region 39 with (fail)
                              go_quiet (fail)
                              go_upto_region 38 with (fail)
                              refine wp_name (fun V => Below wq.heap.size wq V) (below_drewN (Below.refl _ _) _) (fun V hV => ?_)
                              have HV := Lib.hid (HBq.out.trans (hV.mono hBq))
                              clear hV x0 x3 x4 y1 m1
                              go_wp2
                              go_roundw
                              case rel => exact ⟨q + 1, by omega, by go_num, by rw [HC2.out], by rw [HC3.out], HV.out⟩
                              case measure => simp [intOf]; omega
                          · obtain rfl : q = lk.length := by omega
                            rw [List.take_length]
                            have G6 := Lib.hid (own_below H6.out HBq.out)
                            have G7 := Lib.hid (own_below H7.out HBq.out)
                            have G8 := Lib.hid (own_below H8.out HBq.out)
                            have G12 := Lib.hid (own_below H12.out HBq.out)
                            have GB := Lib.hid (HBk.out.trans (HBq.out.mono hBk))
                            have hy := cell_below HBq.out Y0.out
                            have hBq3 : B3 ≤ wq.heap.size := Nat.le_trans hBk hBq
                            have hS1 : sumK ((M.map (valB C)).take (k + 1)) = sumK ((M.map (valB C)).take k) + valB C m := sumK_take (by rw [List.getElem?_map, Hm.out]; rfl)
                            have hsb := sumK_bd (M := 600000) (by omega) ((M.map (valB C)).take k) (fun z hz => by
                              obtain ⟨m', _, rfl⟩ := List.mem_map.1 (List.mem_of_mem_take hz)
                              exact (Hvb.out m').1)
                            have hsl : ((M.map (valB C)).take k).length ≤ 5 := by rw [List.length_take, List.length_map, Hn5.out]; omega
                            have hvm := Hvb.out m
                            obtain ⟨sk, hsk⟩ : ∃ sk, sumK ((M.map (valB C)).take k) = sk := ⟨_, rfl⟩
                            rw [hsk] at hS1 hsb ⊢
                            have hsk1 : 0 ≤ sk ∧ sk ≤ 3000000 := by omega
                            clear hsb hsl hsk
                            obtain ⟨cb, hcb2⟩ : ∃ cb, closedB m L = cb := ⟨_, rfl⟩
                            rw [hcb2]
                            have hfm := HF2.out m
                            have hRw := Hrec.out.below (by rw [HB3.out]; exact GB.out)
                            by_cases hk2 : (lastD m C).kind = 2
                            · obtain ⟨f1, f2, f3⟩ := hfm.yes hk2
                              have k2b : ((lastD m C).kind == 2) = true := by simpa using hk2
                              rw [hcb2] at f1
                              subst f1
                              rw [Hkc.out] at f2
                              rw [Hkn.out] at f3
                              rw [f2, f3]
                              have HS1 := Lib.hid hS1
                              obtain ⟨vb, hvbm⟩ : ∃ vb, valB C m = vb := ⟨_, rfl⟩
                              obtain ⟨va, hvam⟩ : ∃ va, valA C m = va := ⟨_, rfl⟩
                              have Hva := Lib.hid hvam
                              rw [hvbm] at HS1 hvm ⊢
                              rw [hvam] at hvm ⊢
                              clear hS1 hfm hcb2 hk2 f2 f3 hvbm hvam
                              go_wp2_with fail
                              refine (last_any _ C m _ hRw).mono ?_
                              rintro e wl ⟨rfl, hbl⟩
                              have L6 := Lib.hid (own_below G6.out hbl)
                              have L7 := Lib.hid (own_below G7.out hbl)
                              have L8 := Lib.hid (own_below G8.out hbl)
                              have L12 := Lib.hid (own_below G12.out hbl)
                              have LB := Lib.hid (GB.out.trans (hbl.mono hBq3))
                              have x7 := L7.out.cellAt k (by omega)
                              rw [List.getElem?_map, salesL_at (by rw [Hn5.out]; exact hlt), Option.map_some] at x7
                              have f7 := L7.out.frozenAt k
                              clear hbl hRw hy
                              go_wp2
                              refine put_to (w := .int .u8 (lastD m C).kind) ?_ rfl
                              go_wp2
                              go_roundw
                              case rel =>
                                refine ⟨k + 1, by omega, by go_num, by rw [HS1.out], LB.out.setCell (p := ⟨g7, k, none⟩) hg7 _, ownsRow_setCell_other L6.out (a := ⟨g7, k, none⟩) Hne.out _, ?_, ownsRow_setCell_other L8.out (a := ⟨g7, k, none⟩) (ne_of_apart (own_apart L8.out L7.out (by decide)) rfl) _, ownsRow_setCell_other L12.out (a := ⟨g7, k, none⟩) (ne_of_apart (own_apart L12.out L7.out (by decide)) rfl) _⟩
                                have hst := (L7.out.stored k (.int .i64 va)).1
                                rw [← Hva.out, ← List.map_set, salesL_set Hm.out, Hva.out] at hst
                                exact hst
                              case measure => simp [intOf]; omega
                            · obtain ⟨f1, f2⟩ := hfm.no hk2
                              have k2b : ((lastD m C).kind == 2) = false := by simpa using hk2
                              rw [f1, Int.add_zero] at hS1
                              have HS1 := Lib.hid hS1
                              have HSZ := Lib.hid (salesL_zero (f := valA C) Hm.out f2)
                              have hc4 := lc_bd m lk HLkB.out
                              obtain ⟨ic, hic⟩ : ∃ ic, kc + lcC m lk = ic := ⟨_, rfl⟩
                              obtain ⟨jc, hjc⟩ : ∃ jc, kn + lcN m lk = jc := ⟨_, rfl⟩
                              rw [hic, hjc]
                              clear hS1 hfm hcb2 hk2 f1 f2 hc4 hic hjc hvm
                              cases cb with
                              | false =>
                                clear hRw hy
                                go_wp2
                                go_roundw
                                case rel => exact ⟨k + 1, by omega, by go_num, by rw [HS1.out], GB.out, G6.out, by rw [HSZ.out]; exact G7.out, G8.out, G12.out⟩
                                case measure => simp [intOf]; omega
                              | true =>
                                go_wp2_with fail
                                refine (last_any _ C m _ hRw).mono ?_
                                rintro e wl ⟨rfl, hbl⟩
                                have L6 := Lib.hid (own_below G6.out hbl)
                                have L7 := Lib.hid (own_below G7.out hbl)
                                have L8 := Lib.hid (own_below G8.out hbl)
                                have L12 := Lib.hid (own_below G12.out hbl)
                                have LB := Lib.hid (GB.out.trans (hbl.mono hBq3))
                                clear hbl hRw hy
                                go_wp2
                                refine put_to (w := .int .u8 (lastD m C).kind) ?_ rfl
                                go_wp2
                                go_roundw
                                case rel => exact ⟨k + 1, by omega, by go_num, by rw [HS1.out], LB.out, L6.out, by rw [HSZ.out]; exact L7.out, L8.out, L12.out⟩
                                case measure => simp [intOf]; omega
                  · obtain rfl : k = n5 := by omega
                    have htk : (M.map (valB C)).take k = M.map (valB C) := List.take_of_length_le (by rw [List.length_map, Hn5.out]; exact Nat.le_refl _)
                    rw [htk, ← Hcs.out]
                    have e7 : salesL M (valA C) k = M.map (valA C) := by rw [← Hn5.out]; exact salesL_end _ _
                    have hs7 := H7.out
                    rw [e7] at hs7
                    have hdv := HDiv.out
                    obtain ⟨ws, hws⟩ : ∃ ws, M.map (valA C) = ws := ⟨_, rfl⟩
                    obtain ⟨cC, hcC⟩ : ∃ cC, coinF C = cC := ⟨_, rfl⟩
                    have hwl : ws.length = k := by rw [← hws, List.length_map, Hn5.out]
                    rw [hws] at hs7 hdv
                    rw [hcC] at hdv hcb ⊢
                    have Hdv := Lib.hid hdv
                    have S7 := Lib.hid hs7
                    have hsrc := src_of_nums (nums_of_own hs7)
                    rw [hwl] at hsrc
                    have Hsrc := Lib.hid hsrc
                    have Hwl := Lib.hid hwl
                    have hps : sumL ((List.range ws.length).map (partAt cC ws)) = cC := part_sum hdv
                    rw [hwl] at hps
                    have hpb := part_bd hdv
                    have hpz : ∀ j, j < k → ws[j]? = some 0 → (∃ x ∈ ws, 0 < x) → partAt cC ws j = 0 := fun j hj => part_zero hdv (by rw [hwl]; exact hj)
                    obtain ⟨f, hf⟩ : ∃ f, partAt cC ws = f := ⟨_, rfl⟩
                    have hfd : divAt cC ws (leftAll cC ws).toNat = f := hf
                    rw [hf] at hps hpb hpz
                    have HF := Lib.hid hfd
                    have HPS := Lib.hid hps
                    have HPB := Lib.hid hpb
                    have HPZ := Lib.hid hpz
                    have hk5 : 1 ≤ k ∧ k ≤ 5 := by have := Hdv.out.len; omega
                    have hw3 : w.heap.size ≤ B3 := by have := H3.out.size; have := HB3.out; omega
                    clear htk e7 hs7 hdv hws hcC hwl hsrc hps hpb hpz hf hfd H6 H7 H8 H12 HDiv HF2 Hcs Hvb HLok HLkB
                    go_wp2_with (at_builtin; go_loud (refine wpList_append_src _ rfl (.const (.slice none 0 0)) (.tmp 228) 29 rfl wk.heap.size 3 iI _ 1 8 Tryz.underlying29 hiI hzI0 hzI1 hzI2 rfl (by omega) (.slice none 0 0) 0 [] rfl (World.ownsRow_nil _ _ _ _) (some ⟨g7, 0, none⟩) k c7 (ws.map (.int .i64)) rfl Hsrc.out (ints_one ws) (by simp [maxLen] <;> omega) (by omega) (by simp) ?_); intro v1 w1 hown1 hg1 hat1; rw [Nat.zero_add, List.nil_append] at hown1; have hb1 : Below wk.heap.size wk w1 := below_grown (Below.refl _ _) hg1 (Nat.le_refl _) (World.ownsRow_nil wk wk.heap.size 3 1) (Nat.le_refl _); obtain ⟨A1, c1, rfl⟩ := own_form hown1; have Hown1 := Lib.hid hown1; have Hb1 := Lib.hid hb1; clear hown1 hg1 hat1 hb1)
                    refine (Divide_ok cC _ ws _ (nums_of_own Hown1.out) Hdv.out).mono ?_
                    rintro e w2 ⟨Ad, cd, rfl, hownd, hbd⟩
                    rw [Hwl.out, HF.out] at hownd
                    rw [Hwl.out]
                    obtain ⟨gd, rfl, hgd, hgdl⟩ := own_some hownd (by omega)
                    have hb2 : Below wk.heap.size wk w2 := Hb1.out.trans (hbd.mono Hb1.out.size)
                    have Hb2 := Lib.hid (HBk.out.trans (hb2.mono hBk))
                    have T7 := Lib.hid (own_below S7.out hb2)
                    have HD := Lib.hid hownd
                    clear hownd hbd hb2 Hown1 Hb1 S7 Hsrc hgd hgdl hBk HBk
                    go_wp2
                    go_loop [23, 24, 25] (fun su so ix => ∃ j : Nat, j ≤ k ∧ ix = .int .i64 (j : Int) ∧ su = .int .i64 (sumL (((List.range k).map f).take j)) ∧ so = .bool (soldB (ws.take j))) (fun su so ix => k - (intOf ix).toNat)
                    case atStart => exact ⟨0, by omega, rfl, rfl, rfl⟩
                    case round =>
                      obtain ⟨j, hj, rfl, rfl, rfl⟩ := hrel
                      by_cases hjl : j < k
                      · have p0 : (j : Int) < (k : Int) := by omega
                        have z0 := HD.out.cellAt j (by omega)
                        rw [rowF_get hjl] at z0
                        obtain ⟨x, hx⟩ : ∃ x, ws[j]? = some x := ⟨_, List.getElem?_eq_getElem (by rw [Hwl.out]; exact hjl)⟩
                        have s0 := T7.out.cellAt j (by omega)
                        rw [List.getElem?_map, hx, Option.map_some] at s0
                        have hsum : sumL (((List.range k).map f).take (j + 1)) = sumL (((List.range k).map f).take j) + f j := sumL_take (by rw [List.getElem?_map, List.getElem?_range hjl]; rfl)
                        have hsold : soldB (ws.take (j + 1)) = (soldB (ws.take j) || decide (0 < x)) := by
                          have e : ws.take (j + 1) = ws.take j ++ [x] := by rw [List.take_add_one, hx]; rfl
                          rw [e, soldB_snoc]
                        have hbs := sumK_bd (M := 10000000000001) (by omega) (((List.range k).map f).take j) (fun y hy => by
                          obtain ⟨c, _, rfl⟩ := List.mem_map.1 (List.mem_of_mem_take hy)
                          exact HPB.out c)
                        have hbl : (((List.range k).map f).take j).length ≤ 5 := by rw [List.length_take]; omega
                        rw [sumK_sumL] at hbs
                        obtain ⟨su, hsu⟩ : ∃ su, sumL (((List.range k).map f).take j) = su := ⟨_, rfl⟩
                        rw [hsu] at hbs hsum ⊢
                        have hsu1 : 0 ≤ su ∧ su ≤ 60000000000000 := by omega
                        have hfj := HPB.out j
                        obtain ⟨sb, hsb⟩ : ∃ sb, soldB (ws.take j) = sb := ⟨_, rfl⟩
                        rw [hsb] at hsold ⊢
                        have Hsum := Lib.hid hsum
                        clear hbs hbl hsu hsb hsum hx
                        cases sb with
                        | true =>
                          rw [Bool.true_or] at hsold
                          have Hsold := Lib.hid hsold
                          clear hsold s0
                          go_wp2
                          go_round
                          case rel => exact ⟨j + 1, by omega, by go_num, by rw [Hsum.out], by rw [Hsold.out]⟩
                          case measure => simp [intOf]; omega
                        | false =>
                          by_cases hx0 : 0 < x
                          · have d1 : decide (0 < x) = true := by simpa using hx0
                            rw [d1, Bool.or_true] at hsold
                            have Hsold := Lib.hid hsold
                            clear hsold
                            go_wp2
                            go_round
                            case rel => exact ⟨j + 1, by omega, by go_num, by rw [Hsum.out], by rw [Hsold.out]⟩
                            case measure => simp [intOf]; omega
                          · have d1 : decide (0 < x) = false := by simpa using hx0
                            rw [d1, Bool.or_false] at hsold
                            have Hsold := Lib.hid hsold
                            clear hsold
                            go_wp2
                            go_round
                            case rel => exact ⟨j + 1, by omega, by go_num, by rw [Hsum.out], by rw [Hsold.out]⟩
                            case measure => simp [intOf]; omega
                      · obtain rfl : j = k := by omega
                        have t1 : ((List.range j).map f).take j = ((List.range j).map f) := List.take_of_length_le (by rw [List.length_map, List.length_range]; exact Nat.le_refl _)
                        have t2 : ws.take j = ws := List.take_of_length_le (by rw [Hwl.out]; exact Nat.le_refl _)
                        rw [t1, t2, HPS.out]
                        obtain ⟨sb, hsb⟩ : ∃ sb, soldB ws = sb := ⟨_, rfl⟩
                        have Hsb := Lib.hid hsb
                        rw [hsb]
                        clear t1 t2 hsb
                        go_wp2
                        go_loop [26] (fun ix => ∃ q : Nat, q ≤ j ∧ ix = .int .i64 (q : Int)) (fun ix => j - (intOf ix).toNat)
                        case atStart => exact ⟨0, by omega, rfl⟩
                        case round =>
                          obtain ⟨q, hq, rfl⟩ := hrel
                          by_cases hql : q < j
                          · have p0 : (q : Int) < (j : Int) := by omega
                            cases sb with
                            | false =>
                              go_wp2
                              go_round
                              case rel => exact ⟨q + 1, by omega, by go_num⟩
                              case measure => simp [intOf]; omega
                            | true =>
                              have z0 := HD.out.cellAt q (by omega)
                              rw [rowF_get hql] at z0
                              obtain ⟨x, hx⟩ : ∃ x, ws[q]? = some x := ⟨_, List.getElem?_eq_getElem (by rw [Hwl.out]; exact hql)⟩
                              have s0 := T7.out.cellAt q (by omega)
                              rw [List.getElem?_map, hx, Option.map_some] at s0
                              by_cases hx0 : x = 0
                              · have hz := HPZ.out q hql (by rw [hx, hx0]) (soldB_yes Hsb.out)
                                rw [hx0] at s0
                                rw [hz] at z0
                                clear hx hx0 hz
                                go_wp2
                                go_round
                                case rel => exact ⟨q + 1, by omega, by go_num⟩
                                case measure => simp [intOf]; omega
                              · have x1 : (x == 0) = false := by simpa using hx0
                                clear hx hx0
                                go_wp2
                                go_round
                                case rel => exact ⟨q + 1, by omega, by go_num⟩
                                case measure => simp [intOf]; omega
                          · obtain rfl : q = j := by omega
                            go_wp2_with fail
                            refine (tells_any _).mono ?_
                            rintro e wz ⟨rfl, hbz⟩
                            have hfin := (H3.out.trans (Hb2.out.mono hw3))
                            have hfin2 := hfin.trans (hbz.mono hfin.size)
                            go_wp2
                            go_ret
                            exact ⟨rfl, hfin2⟩

    · have hnb : (n != 0) = true := by simpa using hn
      go_wp2_with fail
      refine (tells_any _).mono ?_
      rintro e w2 ⟨rfl, hb2⟩
      go_wp2
      go_ret
      exact ⟨rfl, H1.out.trans (hb2.mono H1.out.size)⟩
end Go.Proofs.YtckgapeednokjaaGreat
