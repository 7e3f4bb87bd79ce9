import Derived.Test.YtllobkhdeahgpaaE4
import Derived.Outline
set_option linter.unusedVariables false
set_option linter.unusedSimpArgs false
namespace Go.Proofs.Ytllobkhdeahgpaa
open Go Go.Proofs Go.RowKit

open Go.Shelf
attribute [local go_sem] Oper.semAt_some
def GivesWorkN (d : DDay) (tb te : Nat → Nat → Int) (ps : List Pc) (w : World) (e : Ending) (w' : World) : Prop := ∃ (A1 A2 A3 : Option Addr) (c1 c2 c3 : Nat),
  e = .returned (.agg #[.slice A1 ps.length c1, .slice A2 (ps.length - 1) c2, .slice A3 (ps.length - 1) c3, .int .i64 (spreadP d tb te ps)]) ∧ NumsAt .i64 w' (.slice A1 ps.length c1) (ps.map (durP tb te)) ∧ NumsAt .i64 w' (.slice A2 (ps.length - 1) c2) (breaksP tb te ps) ∧
  NumsAt .i64 w' (.slice A3 (ps.length - 1) c3) (restsP d tb te ps) ∧ w'.ownsRow w.heap.size 3 1 (.slice A2 (ps.length - 1) c2) (ps.length - 1) ((breaksP tb te ps).map (.int .i64)) ∧ Below w.heap.size w w'
set_option maxRecDepth 100000 in
set_option maxHeartbeats 6400000 in
theorem do_ownN (P x : Nat) (d : DDay) (tb te : Nat → Nat → Int) (fu fv : Fn) (au av cu cv : Array Value) (w : World) (hd : DayOk d) (hp : PlanAt w P d) (hx : x < 2 ^ segN d.blocks) (h0 : x ≠ 0)
    (hu : Tells w d (.func fu au cu) tb) (hv : Tells w d (.func fv av cv) te) (hbd : ∀ b i, InDay d b i → (0 ≤ tb b i ∧ tb b i ≤ 3000) ∧ (0 ≤ te b i ∧ te b i ≤ 3000)) :
    Calls Try.prog 51 #[.pointer (some ⟨P, 0, none⟩), .int .u16 (x : Int), .agg #[.func fu au cu, .func fv av cv]] w (GivesWorkN d tb te (piecesL d (bitsL (segN d.blocks) x)) w) := by
  obtain ⟨i0, hi0, hz0, hz1, hz2⟩ := info_parts infoI
  have hPl := hp.lt
  have Hp := Lib.hid hp
  have Hd := Lib.hid hd
  have Hu := Lib.hid hu
  have Hv := Lib.hid hv
  have Hbd := Lib.hid hbd
  have Hx := Lib.hid hx
  clear hp hd hu hv hbd hx
  refine (callsIn_wide (n := 3)).1 ?_
  refine callsIn_of_wp_marks Try.func51 rfl trivial ?_
  simp only [Try.ntmps51, List.size_toArray, List.length_cons, List.length_nil, Nat.reduceAdd, Nat.reduceSub, Array.replicate_succ, Array.replicate_zero, List.push_toArray, List.append_toArray, List.nil_append, List.cons_append]
  gi_wp2_with fail
  have hb0 : Below w.heap.size w (((((((w.alloc (.cells #[.pointer (some ⟨P, 0, none⟩)] 76)).alloc (.cells #[.func fu au cu, .func fv av cv] 109)).alloc (.cells #[.slice none 0 0, .slice none 0 0, .slice none 0 0, .int .i64 0] 106)).alloc
      (.cells #[.slice none 0 0, .slice none 0 0, .slice none 0 0, .int .i64 0] 106)).alloc (.cells #[.int .i64 0] 3)).alloc (.cells #[.int .i64 0] 3)).alloc (.cells #[.int .i64 0, .int .i64 0] 103)) :=
    (((((((Below.refl _ _).alloc (Nat.le_refl _) _).alloc (by simp) _).alloc (by simp; omega) _).alloc (by simp; omega) _).alloc (by simp; omega) _).alloc (by simp; omega) _).alloc (by simp; omega) _
  refine ⟨trivial, ?_⟩
  refine (callsIn_wide.2 (pieces_any P x d _ Hd.out (Hp.out.below hb0) Hx.out h0)).mono ?_
  rintro e W1 ⟨sv, rfl, ⟨B, g, c, rfl, s0, hcap, hcells, hgl, hB7, hg7⟩, hb1⟩
  have hw1 : Below w.heap.size w W1 := hb0.trans (hb1.mono hb0.size)
  have hs1 := hb1.size
  simp only [World.size_alloc] at hs1 hB7 hg7
  have hst : DoSt d tb te w.heap.size W1.heap.size P (.func fu au cu) (.func fv av cv) [] W1 := by
    refine ⟨.slice none 0 0, .slice none 0 0, .slice none 0 0, ?_⟩
    have hk : ∀ k, k < w.heap.size + 7 → W1.heap[k]? = _ := fun k hk => hb1.block k (by simp; omega)
    refine ⟨?_, ?_, ?_, ?_, ?_, ?_, ?_, World.ownsRow_nil _ _ _ _, World.ownsRow_nil _ _ _ _, World.ownsRow_nil _ _ _ _, fun g h => (by cases h), fun g h => (by cases h), fun g h => (by cases h), by omega, Nat.le_refl _⟩
    all_goals (rw [hk _ (by omega)])
    all_goals (simp only [World.heap_alloc_at, World.size_alloc]; repeat (first | rw [if_neg (by omega)] | rw [if_pos (by omega)]))
    all_goals rfl
  gi_wp2_with fail
  have hps : ∀ p ∈ piecesL d (bitsL (segN d.blocks) x), InDay d p.b p.fr ∧ InDay d p.b p.to := fun p hp => by
    obtain ⟨k1, k2, k3, k4⟩ := (raw_ok (bl := d.blocks) _ (bitsL_asc (segN d.blocks) x) (fun n hn => (mem_bitsL.1 hn).1)).ok p ((srtP_perm _ _).mem_iff.1 hp)
    exact ⟨⟨k1, by omega⟩, k1, k3⟩
  have hlen : (piecesL d (bitsL (segN d.blocks) x)).length ≤ 10 := by
    have h1 := rawP_le (segs d.blocks) (bitsL (segN d.blocks) x)
    have h2 := bitsL_len (segN d.blocks) x
    have h3 := Hd.out.segs
    have h4 : (piecesL d (bitsL (segN d.blocks) x)).length = _ := (srtP_perm d.blocks (rawP (segs d.blocks) (bitsL (segN d.blocks) x))).length_eq
    omega
  have hne : piecesL d (bitsL (segN d.blocks) x) ≠ [] := fun e => by
    have hb : bitsL (segN d.blocks) x ≠ [] := fun e => by
      have := mask_bitsL Hx.out
      rw [e] at this
      exact h0 this.symm
    have h1 := (raw_ok (bl := d.blocks) _ (bitsL_asc (segN d.blocks) x) (fun n hn => (mem_bitsL.1 hn).1)).nonempty hb
    have h4 : (piecesL d (bitsL (segN d.blocks) x)).length = _ := (srtP_perm d.blocks (rawP (segs d.blocks) (bitsL (segN d.blocks) x))).length_eq
    rw [e] at h4
    exact h1 (List.eq_nil_of_length_eq_zero (by simpa using h4.symm))
  generalize piecesL d (bitsL (segN d.blocks) x) = ps at *
  refine wpIn_rangeFunc_ownH rfl (by omega) (gf := 96) (lb := #[.pointer (some ⟨B, 0, none⟩)]) rfl trivial (enters_of Try.func96 (by kernel_rfl) rfl)
    (values_stops 2 (by omega) B g (fun k => k = B ∨ k = g) ps c (by omega) hcap W1 (fun k hk => by rcases hk with rfl | rfl; exact World.block_lt_of_cell? _ _ s0; exact hgl) ⟨.inl rfl, .inr rfl, s0, hcells⟩) Keep.trans
    (fun W l o1 o2 hl ho _ _ j hj => World.putObj_heap_other (by have hB := World.block_lt_of_cell? _ _ s0; rcases hj with rfl | rfl <;> (simp only at hB; omega))) (Below.refl _ _) (fun _ => rfl)
    (fun pre W => DoSt d tb te w.heap.size W1.heap.size P (.func fu au cu) (.func fv av cv) (pre.map fun x => ps[x.1]) W ∧ Below w.heap.size w W)
    (fun _ _ _ => False) ?hI (fun _ _ _ _ _ hs _ _ => hs) ?h0
    (fun y a' W => ∃ Bx, W1.heap.size ≤ Bx ∧ W.heap[Bx]? = some (.cells #[.int .i64 ((ps[y.1]).b : Int), .int .i64 ((ps[y.1]).fr : Int), .int .i64 ((ps[y.1]).b : Int), .int .i64 ((ps[y.1]).to : Int), .int .i64 ((ps[y.1]).first : Int)] 126 (0, 0)) ∧ a' = { tmps := List.toArray ((.pointer (some ⟨P, 0, none⟩)) :: (.int .u16 (x : Int)) :: (.agg #[.func fu au cu, .func fv av cv]) :: (.pointer (some ⟨w.heap.size, 0, none⟩)) :: undef :: (.pointer (some ⟨w.heap.size + 1, 0, none⟩)) :: (.pointer (some ⟨w.heap.size + 1 + 1, 0, none⟩)) :: (.pointer (some ⟨w.heap.size + 1 + 1 + 1, 0, none⟩)) :: (.pointer (some ⟨w.heap.size + 1 + 1 + 1 + 1, 0, none⟩)) :: (.pointer (some ⟨w.heap.size + 1 + 1 + 1 + 1 + 1, 0, none⟩)) :: (.pointer (some ⟨w.heap.size + 1 + 1 + 1 + 1 + 1 + 1, 0, none⟩)) :: (.pointer (some ⟨Bx, 0, none⟩)) :: undef :: undef :: (.agg #[.int .i64 0, .int .i64 0]) :: (.pointer (some ⟨P, 0, none⟩)) :: (.int .u16 (x : Int)) :: (.func (.func 96) #[] #[.pointer (some ⟨B, 0, none⟩)]) :: (.agg #[.int .i64 ((ps[y.1]).b : Int), .int .i64 ((ps[y.1]).fr : Int), .int .i64 ((ps[y.1]).b : Int), .int .i64 ((ps[y.1]).to : Int), .int .i64 ((ps[y.1]).first : Int)]) :: undef :: undef :: undef :: undef :: undef :: undef :: undef :: undef :: undef :: undef :: undef :: undef :: undef :: undef :: undef :: undef :: undef :: undef :: undef :: undef :: undef :: undef :: undef :: undef :: undef :: undef :: undef :: undef :: undef :: undef :: undef :: undef :: undef :: undef :: undef :: undef :: undef :: undef :: undef :: undef :: undef :: undef :: undef :: undef :: undef :: undef :: undef :: undef :: undef :: undef :: undef :: undef :: undef :: undef :: undef :: undef :: undef :: undef :: undef :: undef :: undef :: undef :: undef :: undef :: undef :: undef :: undef :: undef :: undef :: undef :: undef :: undef :: undef :: undef :: undef :: undef :: undef :: undef :: undef :: undef :: undef :: undef :: []), defers := [] })
    ?hAx ?assign ?body ?done ?stop
  case hI => exact OwnFrom.and (DoSt.own _) (ownFrom_below (Nat.le_refl _) (by omega))
  case h0 => exact ⟨hst, hw1⟩
  case hAx =>
    rintro y a' _ X Y row ⟨Bx, h1, h2, h3⟩ hg hr
    refine ⟨Bx, h1, (hg.block Bx (Array.getElem?_eq_some_iff.1 h2).1 (fun e => ?_)).trans h2, h3⟩
    obtain ⟨_, o, ho, hc⟩ := hr Bx e.symm
    rw [h2] at ho
    cases ho
    cases hc
  case assign =>
    rintro id pre y W K hI hK
    simp only [pcE]
    have e5 : pcV ps[y.1] = .agg #[.int .i64 ((ps[y.1]).b : Int), .int .i64 ((ps[y.1]).fr : Int), .int .i64 ((ps[y.1]).b : Int), .int .i64 ((ps[y.1]).to : Int), .int .i64 ((ps[y.1]).first : Int)] := rfl
    rw [e5]
    gi_wp2
    have hM := hI.1.size
    refine hK _ _ ((KeepsOthers.alloc _ _).from _) ?_ ?_ ⟨W.heap.size, hM, World.alloc_heap_new _ _, rfl⟩
    · exact fun j hj => Below.heap_alloc _ _ _ (by have hB := World.block_lt_of_cell? _ _ s0; rcases hj with rfl | rfl <;> (simp only at hB; omega))
    · exact ⟨hI.1.below ((Below.refl _ _).alloc (Nat.le_refl _) _), hI.2.alloc hI.2.size _⟩
  case body =>
    rintro id pre ⟨jx, hjx⟩ a' W hlW ⟨r, hrec⟩ ⟨hdo, hbw⟩ ⟨Bx, hBx, hbX, rfl⟩ hpre
    dsimp only
    have hqs : ∀ r ∈ pre.map (fun x => ps[x.1]), r ∈ ps := fun r hr => by
      obtain ⟨x, _, rfl⟩ := List.mem_map.1 hr
      exact List.getElem_mem _
    have hql : (pre.map (fun x => ps[x.1])).length ≤ 10 := by simp; omega
    have hqe : (pre ++ [(⟨jx, hjx⟩ : { j : Nat // j < ps.length })]).map (fun x => ps[x.1]) = pre.map (fun x => ps[x.1]) ++ [ps[jx]] := by simp
    obtain ⟨qs, hqs0⟩ : ∃ qs, pre.map (fun x => ps[x.1]) = qs := ⟨_, rfl⟩
    obtain ⟨hi1, hi2⟩ := hps ps[jx] (List.getElem_mem hjx)
    obtain ⟨p, hp0⟩ : ∃ p, ps[jx] = p := ⟨_, rfl⟩
    rw [hqs0] at hqs hql hdo hqe
    rw [hp0] at hi1 hi2 hbX hqe ⊢
    have Hqe := Lib.hid hqe
    clear hqs0 hp0 hqe
    obtain ⟨v1, v2, v3, hW⟩ := hdo.st
    have hM := hW.hM
    have hMW := hW.hW
    have hBl : B < W1.heap.size := World.block_lt_of_cell? _ _ s0
    have x0 : W.cell? ⟨Bx, 0, none⟩ = some (.int .i64 (p.b : Int)) := by rw [box_cells hbX]; rfl
    have x1 : W.cell? ⟨Bx, 1, none⟩ = some (.int .i64 (p.fr : Int)) := by rw [box_cells hbX]; rfl
    have x2 : W.cell? ⟨Bx, 2, none⟩ = some (.int .i64 (p.b : Int)) := by rw [box_cells hbX]; rfl
    have x3 : W.cell? ⟨Bx, 3, none⟩ = some (.int .i64 (p.to : Int)) := by rw [box_cells hbX]; rfl
    have y0 : W.cell? ⟨w.heap.size + 1, 0, none⟩ = some (.func fu au cu) := by rw [box_cells hW.b1]; rfl
    have y1 : W.cell? ⟨w.heap.size + 1, 1, none⟩ = some (.func fv av cv) := by rw [box_cells hW.b1]; rfl
    have X0 := Lib.hid x0
    have X1 := Lib.hid x1
    have X2 := Lib.hid x2
    have X3 := Lib.hid x3
    replace x0 := Later.cell x0
    replace x1 := Later.cell x1
    replace x2 := Later.cell x2
    replace x3 := Later.cell x3
    replace y0 := Later.cell y0
    replace y1 := Later.cell y1
    gi_wp2_with fail
    refine wpIn_region_later (by kernel_rfl) (by kernel_rfl) (fun ⟨_, _, h⟩ => h) ?_
    repeat (go_big_quiet_step (fail))
    refine wpQuiet_callv (.tmp 20) [.tmp 23] #[103] rfl rfl (.func fu au cu) rfl [.agg #[.int .i64 (p.b : Int), .int .i64 (p.fr : Int)]] rfl (.int .i64 (tb p.b p.fr)) (fun X => Hu.out X.val p.b p.fr (hbw.trans (X.property.mono hbw.size)) hi1) ?_
    simp only [Act.put, List.setIfInBounds_toArray, List.set_cons_succ, List.set_cons_zero]
    repeat (go_big_quiet_step (fail))
    refine wpQuiet_callv (.tmp 26) [.tmp 29] #[103] rfl rfl (.func fv av cv) rfl [.agg #[.int .i64 (p.b : Int), .int .i64 (p.to : Int)]] rfl (.int .i64 (te p.b p.to)) (fun X => Hv.out X.val p.b p.to (hbw.trans (X.property.mono hbw.size)) hi2) ?_
    simp only [Act.put, List.setIfInBounds_toArray, List.set_cons_succ, List.set_cons_zero]
    repeat (go_big_quiet_step (fail))
    refine wpQuiet_nil ?_
    rintro Wa hLa
    have hba := Later.out hLa
    clear hLa
    clear x0 x1 x2 x3 y0 y1
    have hWa0 := hW.below hba
    have hXa : Wa.heap[Bx]? = some (.cells #[.int .i64 (p.b : Int), .int .i64 (p.fr : Int), .int .i64 (p.b : Int), .int .i64 (p.to : Int), .int .i64 (p.first : Int)] 126 (0, 0)) := (hba.block Bx (Array.getElem?_eq_some_iff.1 hbX).1).trans hbX
    have hca : Chg (DoR w.heap.size W1.heap.size) W Wa := Chg.of_below hba
    have hRM : ∀ k, W1.heap.size ≤ k → DoR w.heap.size W1.heap.size k := fun k hk => .inr hk
    have hMa := hWa0.hW
    obtain ⟨⟨tl, th⟩, _⟩ := Hbd.out p.b p.fr hi1
    obtain ⟨_, ⟨el, eh⟩⟩ := Hbd.out p.b p.to hi2
    have hfin : ∀ W5, DoFin d tb te w.heap.size W1.heap.size P (.func fu au cu) (.func fv av cv) qs p Bx W W5 → DoFin d tb te w.heap.size W1.heap.size P (.func fu au cu) (.func fv av cv) qs p Bx W W5 := fun _ h => h
    obtain ⟨T1, hT1⟩ : ∃ z, tb p.b p.fr = z := ⟨_, rfl⟩
    obtain ⟨T2, hT2⟩ : ∃ z, te p.b p.to = z := ⟨_, rfl⟩
    rw [hT1] at tl th ⊢
    rw [hT2] at el eh ⊢
    have HT1 := Lib.hid hT1
    have HT2 := Lib.hid hT2
    have HXa := Lib.hid hXa
    clear hT1 hT2 hXa hbX
    have qd : IntKind.i64.wrap (T2 - T1) = T2 - T1 := IntWalk.i64_in _ (by omega)
    rcases List.eq_nil_or_concat qs with rfl | ⟨qs', q, rfl⟩
    · have hWa : DoW w.heap.size W1.heap.size P (.func fu au cu) (.func fv av cv) Wa 0 0 0 0 v1 v2 v3 0 0 0 [] [] [] := hWa0
      obtain ⟨A1, c1, rfl⟩ := own_form hWa.o1
      have g30 := box_cells hWa.b3 0
      have f30 := box_frozen hWa.b3 0
      have g40 := box_cells hWa.b4 0
      have f40 := box_frozen hWa.b4 0
      simp only [List.getElem?_toArray, List.getElem?_cons_zero] at g30 g40
      have hWb := hWa.setF T1
      have HWb := Lib.hid hWb
      clear hWa0 hWb
      gi_wp2_with (refine wpListIn_append_src _ rfl (.tmp 71) (.tmp 75) 28 rfl W1.heap.size 3 i0 _ 1 8 Try.underlying28 hi0 hz0 hz1 hz2 rfl (by omega) _ 0 _ rfl (HWb.out.o1.alloc _) (some ⟨Wa.heap.size, 0, none⟩) 1 1 [.int .i64 (T2 - T1)] rfl (src_newN (xs := [.int .i64 (T2 - T1)]) rfl (by simp)) (by simp [Value.oneCell']) (by unfold maxLen; omega) (by omega) (by simp; omega) ?_; intro A1' c1' w2 hown2 hg2 hat2; have hlow := (grow_low HWb.out.o1 HWb.out.hW hg2 _ (by have := HWb.out.hM; omega)).trans HWb.out.b3; have g31 := box_cells hlow 0; have f31 := box_frozen hlow 0; simp only [List.getElem?_toArray, List.getElem?_cons_zero] at g31; have Hown2 := Lib.hid hown2; have Hg2 := Lib.hid hg2; have Hat2 := Lib.hid hat2; clear hown2 hg2 hat2 hlow)
      refine wpIn_name (DoFin d tb te w.heap.size W1.heap.size P (.func fu au cu) (.func fv av cv) [] p Bx W) ?_ (fun W5 hF => ?_)
      · have hx1 := blk_other (Q := w.heap.size + 1 + 1 + 1 + 1) (o := 0) HXa.out (by omega) (.int .i64 T1)
        refine ⟨⟨.slice A1' 1 c1', v2, v3, ?_⟩, blk_other (own_grow HWb.out.o1 hx1 (by decide) Hg2.out) (by omega) _, ?_⟩
        · have h5 := HWb.out.app1 Hg2.out Hown2.out Hat2.out
          simp only [List.nil_append, headT, List.head?_cons, lastT, lastB, List.getLast?_nil, List.length_nil, Nat.zero_add, List.map_cons, List.map_nil, valsI, durP, breaksP, restsP, HT1.out, HT2.out]
          exact h5
        · exact ((hca.trans (chg_box _ (by omega) _)).trans (chg_app HWb.out.o1 Hg2.out hRM)).trans (chg_box _ (by omega) _)
      clear HWb g30 f30 g40 f40 HXa hba
      obtain ⟨⟨u1, u2, u3, h5⟩, y5, ch5⟩ := hF
      have hM5 := h5.hW
      have x2 : W5.cell? ⟨Bx, 2, none⟩ = some (.int .i64 (p.b : Int)) := by rw [box_cells y5]; rfl
      have x3 : W5.cell? ⟨Bx, 3, none⟩ = some (.int .i64 (p.to : Int)) := by rw [box_cells y5]; rfl
      have c5 := box_cells h5.b5 0
      have f5 := box_frozen h5.b5 0
      have c60 := box_cells h5.b6 0
      have c61 := box_cells h5.b6 1
      have f60 := box_frozen h5.b6 0
      have f61 := box_frozen h5.b6 1
      simp only [List.getElem?_toArray, List.getElem?_cons_zero, List.getElem?_cons_succ] at c5 c60 c61
      have hBx5 : Bx ≠ w.heap.size + 1 + 1 + 1 + 1 + 1 := by omega
      refine wpIn_region_noPanic ?_
      refine wpIn_region_pick [0, 1, 2, 3] [4, 5] (fun _ => true) (fun w' => w'.cell? ⟨Bx, 2, none⟩ = some (.int .i64 (p.b : Int)) ∧ w'.cell? ⟨Bx, 3, none⟩ = some (.int .i64 (p.to : Int))) (by kernel_rfl) (by kernel_rfl) (fun ⟨_, _, h⟩ => h) (fun _ _ _ _ _ h => h) ⟨x2, x3⟩ (fun hne => ?_)
      have m0 := fun z : Meets (fun w' => w'.cell? ⟨Bx, 2, none⟩ = some (.int .i64 (p.b : Int)) ∧ w'.cell? ⟨Bx, 3, none⟩ = some (.int .i64 (p.to : Int))) => z.property
      have n0 := fun z => (m0 z).1
      have n1 := fun z => (m0 z).2
      clear m0
      simp only [pick, pickN, List.filterMap_cons, List.filterMap_nil, List.getElem?_cons_zero, List.getElem?_cons_succ, Option.map_some]
      repeat (change wpQuiet _ _ _ _ (_ :: _) _; go_big_quiet_step (fail))
      refine wpQuiet_nil ?_
      clear n0 n1 hne
      refine wpSeqP_step (fun K hK => ?_)
      go_simp
      refine hK.out _ _ (fun _ => ⟨by simpa [go_sem, hBx5] using x2, by simpa [go_sem, hBx5] using x3⟩) ?_
      clear hK K
      refine wpSeqP_step (fun K hK => ?_)
      go_simp
      refine hK.out _ _ (fun _ => ⟨by simpa [go_sem, hBx5] using x2, by simpa [go_sem, hBx5] using x3⟩) ?_
      clear hK K
      refine wpSeqP_nil ?_
      refine NoPanic.normal ?_
      gi_wp2
      have hch := (((ch5.trans (chg_box (o := 0) (k := w.heap.size + 1 + 1 + 1 + 1 + 1) W5 (by omega) (.int .i64 T2))).trans (chg_box (o := 0) (k := w.heap.size + 1 + 1 + 1 + 1 + 1 + 1) _ (by omega) (.int .i64 (p.b : Int)))).trans (chg_box (o := 1) (k := w.heap.size + 1 + 1 + 1 + 1 + 1 + 1) _ (by omega) (.int .i64 (p.to : Int)))).trans (Chg.of_below (Below.refl _ _).drew)
      refine ⟨hch.keepsOthers.from _, hch.keep (fun j hj => ?_), ?_, hch.below hbw hbw.size (fun k hk => ?_)⟩
      · rcases hj with rfl | rfl
        · exact ⟨by omega, fun h => by rcases h with h | h <;> omega⟩
        · exact ⟨by omega, fun h => by rcases h with h | h <;> omega⟩
      · rw [Hqe.out]
        refine ⟨u1, u2, u3, ?_⟩
        have h6 := ((h5.setL T2).setB (p.b : Int) (p.to : Int)).below (Below.refl _ _).drew
        have el1 : ∀ l : List Pc, (l ++ [p]).length = l.length + 1 := fun l => by simp
        have el2 : ∀ l : List Pc, lastT te (l ++ [p]) = T2 := fun l => by simp [lastT, HT2.out]
        have el3 : ∀ l : List Pc, lastB (l ++ [p]) = (p.b, p.to) := fun l => by simp [lastB]
        rw [el1, el2, el3, Nat.add_sub_cancel]
        exact h6
      · rcases hk with h | h <;> omega
    · simp only [List.concat_eq_append] at *
      obtain ⟨hq1, hq2⟩ := hps q (hqs q (by simp))
      have hlq : (qs' ++ [q]).length = qs'.length + 1 := by simp
      have hLq : lastT te (qs' ++ [q]) = te q.b q.to := by simp [lastT]
      have hBq : lastB (qs' ++ [q]) = (q.b, q.to) := by simp [lastB]
      have hbr : breaksP tb te ((qs' ++ [q]) ++ [p]) = breaksP tb te (qs' ++ [q]) ++ [T1 - te q.b q.to] := by rw [breaksP_snoc, HT1.out]
      have hrs : restsP d tb te ((qs' ++ [q]) ++ [p]) = restsP d tb te (qs' ++ [q]) ++ [T1 - te q.b q.to - gapP d q p] := by rw [restsP_snoc, HT1.out]
      have hdu : ((qs' ++ [q]) ++ [p]).map (durP tb te) = (qs' ++ [q]).map (durP tb te) ++ [T2 - T1] := by simp [durP, HT1.out, HT2.out]
      have hhd : headT tb ((qs' ++ [q]) ++ [p]) = headT tb (qs' ++ [q]) := by simp [headT]
      obtain ⟨_, ⟨ll, lh⟩⟩ := Hbd.out q.b q.to hq2
      rw [hlq, Nat.add_sub_cancel, hLq, hBq] at hWa0
      rw [hlq] at hql
      simp only at hWa0
      obtain ⟨T0, hT0⟩ : ∃ z, te q.b q.to = z := ⟨_, rfl⟩
      rw [hT0] at ll lh hWa0 hbr hrs
      have hgap0 := (walk_any Hd.out (relAt d.blocks q.b q.to).place (relAt d.blocks p.b p.fr).place)
      obtain ⟨G, hG⟩ : ∃ z, gapP d q p = z := ⟨_, rfl⟩
      have hGw : walkAt d.walk (relAt d.blocks q.b q.to).place (relAt d.blocks p.b p.fr).place = G := hG
      rw [hGw] at hgap0
      obtain ⟨gl, gh⟩ := hgap0
      rw [hG] at hrs
      have HLq := Lib.hid (hLq.trans hT0)
      have HBq := Lib.hid hBq
      have Hlq := Lib.hid hlq
      have Hbr := Lib.hid hbr
      have Hrs := Lib.hid hrs
      have Hdu := Lib.hid hdu
      have Hhd := Lib.hid hhd
      have HGw := Lib.hid hGw
      clear hlq hLq hBq hbr hrs hdu hhd hG hGw hT0
      obtain ⟨A2, c2, rfl⟩ := own_form hWa0.o2
      have qb : IntKind.i64.wrap (T1 - T0) = T1 - T0 := IntWalk.i64_in _ (by omega)
      have qr : IntKind.i64.wrap (T1 - T0 - G) = T1 - T0 - G := IntWalk.i64_in _ (by omega)
      have g30 := box_cells hWa0.b3 0
      have g31 := box_cells hWa0.b3 1
      have f31 := box_frozen hWa0.b3 1
      have g50 := box_cells hWa0.b5 0
      obtain ⟨A1, c1, rfl⟩ := own_form hWa0.o1
      simp only [List.getElem?_toArray, List.getElem?_cons_zero, List.getElem?_cons_succ] at g30 g31 g50
      have q0 : ((qs'.length : Int) + 1 == 0) = false := by
        rw [Bool.eq_false_iff]; intro h; simp only [beq_iff_eq] at h; omega
      have HWa := Lib.hid hWa0
      clear hWa0
      gi_wp2_with (refine wpListIn_append_src _ rfl (.tmp 37) (.tmp 41) 28 rfl W1.heap.size 3 i0 _ 1 8 Try.underlying28 hi0 hz0 hz1 hz2 rfl (by omega) _ qs'.length _ rfl (HWa.out.o2.alloc _) (some ⟨Wa.heap.size, 0, none⟩) 1 1 [.int .i64 (T1 - T0)] rfl (src_newN (xs := [.int .i64 (T1 - T0)]) rfl (by simp)) (by simp [Value.oneCell']) (by unfold maxLen; omega) (by omega) (by simp; omega) ?_; intro A2' c2' w2 hown2 hg2 hat2; have hlow := (grow_low HWa.out.o2 HWa.out.hW hg2 _ (by have := HWa.out.hM; omega)).trans HWa.out.b3; have g32 := box_cells hlow 1; have f32 := box_frozen hlow 1; simp only [List.getElem?_toArray, List.getElem?_cons_zero, List.getElem?_cons_succ] at g32; have Hown2 := Lib.hid hown2; have Hg2 := Lib.hid hg2; have Hat2 := Lib.hid hat2; clear hown2 hg2 hat2 hlow)
      refine wpIn_name (fun W3 => DoW w.heap.size W1.heap.size P (.func fu au cu) (.func fv av cv) W3 (headT tb (qs' ++ [q])) T0 (q.b : Int) (q.to : Int) (.slice A1 (qs'.length + 1) c1) (.slice A2' (qs'.length + 1) c2') v3 (qs'.length + 1) (qs'.length + 1) qs'.length (valsI ((qs' ++ [q]).map (durP tb te))) (valsI (breaksP tb te (qs' ++ [q])) ++ [.int .i64 (T1 - T0)]) (valsI (restsP d tb te (qs' ++ [q]))) ∧
          W3.heap[Bx]? = some (.cells #[.int .i64 (p.b : Int), .int .i64 (p.fr : Int), .int .i64 (p.b : Int), .int .i64 (p.to : Int), .int .i64 (p.first : Int)] 126 (0, 0)) ∧ Chg (DoR w.heap.size W1.heap.size) W W3) ?_ (fun W3 hF => ?_)
      · exact ⟨HWa.out.app2 Hg2.out Hown2.out Hat2.out, blk_other (own_grow HWa.out.o2 HXa.out (by decide) Hg2.out) (by omega) _, (hca.trans (chg_app HWa.out.o2 Hg2.out hRM)).trans (chg_box _ (by omega) _)⟩
      clear g30 g31 f31 g50 q0 HWa HXa hba
      obtain ⟨h3, y3, ch3⟩ := hF
      have hbw3 : Below w.heap.size w W3 := ch3.below hbw hbw.size (fun k hk => by rcases hk with h | h <;> omega)
      have hM3 := h3.hW
      obtain ⟨a1, ha1, hl1⟩ := place_nat Hd.out hq2
      obtain ⟨a2, ha2, hl2⟩ := place_nat Hd.out hi1
      have hpq := fun (W' : World) (hW' : PlanAt W' P d) => place_any P q.b q.to d W' hW' hq2
      have hpp := fun (W' : World) (hW' : PlanAt W' P d) => place_any P p.b p.fr d W' hW' hi1
      have hgw := HGw.out
      rw [ha1, ha2] at hgw
      rw [ha1] at hpq
      rw [ha2] at hpp
      have Hpq := Lib.hid hpq
      have Hpp := Lib.hid hpp
      obtain ⟨_, Aw, _, _, cw, _, _, _, p9, _, _, hrows, _, _⟩ := Hp.out.cells
      obtain ⟨Bw, ow, Bw', ow', cw', rfl, r0, r1, hBw, hBw'⟩ := walk_cells hrows Hd.out hl1 hl2
      rw [hgw] at r1
      replace p9 := cell_below hbw3 p9
      replace r0 := cell_below hbw3 r0
      replace r1 := cell_below hbw3 r1
      have i1 : (a1 : Int) < (d.walk.length : Int) := by omega
      have i2 : (a2 : Int) < (d.walk.length : Int) := by omega
      obtain ⟨A3, c3, rfl⟩ := own_form h3.o3
      have hR3 : ∀ k, (Value.slice A3 qs'.length c3).ownBlock = some k → W1.heap.size ≤ k := fun k hk => (h3.o3.lt k hk).1
      have hRx : (Value.slice A3 qs'.length c3).ownBlock ≠ some Bx := fun e => own_not h3.o3 y3 (by decide) e.symm
      have k3 := box_cells h3.b3 2
      have k5 := box_cells h3.b5 0
      have k0 := box_cells h3.b0 0
      have k6 := box_cells h3.b6 0
      have k7 := box_cells h3.b6 1
      have ky0 : W3.cell? ⟨Bx, 0, none⟩ = some (.int .i64 (p.b : Int)) := by rw [box_cells y3]; rfl
      have ky1 : W3.cell? ⟨Bx, 1, none⟩ = some (.int .i64 (p.fr : Int)) := by rw [box_cells y3]; rfl
      simp only [List.getElem?_toArray, List.getElem?_cons_zero, List.getElem?_cons_succ] at k3 k5 k0 k6 k7
      have hst : ∀ p u, W3.cell? p = some u → p.block < W1.heap.size ∨ p.block = Bx → ∀ z : Meets (Chg (fun k => (Value.slice A3 qs'.length c3).ownBlock = some k) W3), z.val.cell? p = some u := fun p u h hp z =>
        Chg.cell z.property (fun e => by
          rcases hp with hp | hp
          · have := hR3 _ e; omega
          · rw [hp] at e; exact hRx e) h
      have hbelow : ∀ W', Chg (fun k => (Value.slice A3 qs'.length c3).ownBlock = some k) W3 W' → Below w.heap.size w W' := fun W' h => h.below hbw3 hbw3.size (fun k hk => by have := hR3 k hk; omega)
      have t3 := hst _ _ k3 (.inl (by simp only; omega))
      have t5 := hst _ _ k5 (.inl (by simp only; omega))
      have t0 := hst _ _ k0 (.inl (by simp only; omega))
      have t6 := hst _ _ k6 (.inl (by simp only; omega))
      have t7 := hst _ _ k7 (.inl (by simp only; omega))
      have u0 := hst _ _ ky0 (.inr rfl)
      have u1 := hst _ _ ky1 (.inr rfl)
      have t9 := hst _ _ p9 (.inl (by simp only; omega))
      have v0 := hst _ _ r0 (.inl (by simp only; omega))
      have v1' := hst _ _ r1 (.inl (by simp only; omega))
      clear hst k3 k5 k0 k6 k7 ky0 ky1 p9 r0 r1 hrows hpq hpp hgw
      refine wpIn_region_noPanic ?_
      refine wpIn_region_ph [([0, 1, 2, 3, 4, 5, 6, 7, 8, 9, 10, 11, 15, 16, 17, 18], [12]), ([13, 14], [19]), ([20, 21, 22], [23, 24, 25, 26])] (fun j => j != 26) (Chg (fun k => (Value.slice A3 qs'.length c3).ownBlock = some k) W3) (by kernel_rfl) (by kernel_rfl) (fun ⟨_, _, h⟩ => h) (fun _ _ _ _ _ h => h) ?_
      have S0 : Chg (fun k => (Value.slice A3 qs'.length c3).ownBlock = some k) W3 W3.drew := Chg.of_below (Below.refl _ _).drew
      refine wpPh_cons S0 (fun hne => ?_)
      simp only [pick, pickN, List.filterMap_cons, List.filterMap_nil, List.getElem?_cons_zero, List.getElem?_cons_succ, Option.map_some]
      repeat (change wpQuiet _ _ _ _ (_ :: _) _; go_big_quiet_step (fail))
      refine wpQuiet_nil ?_
      refine wpSeqK_step (fun K hK => ?_)
      go_simp
      refine (Hpq.out _ (Hp.out.below (hbelow _ S0))).mono ?_
      rintro e Wc ⟨rfl, hbc⟩
      have S1 := S0.trans (Chg.of_below hbc)
      have B1 : Below W3.heap.size W3 Wc := (Below.refl W3.heap.size W3).drew.trans hbc
      refine hK.out _ _ (fun _ => S1) ?_
      clear hK K hne
      refine wpSeqK_nil ?_
      refine wpPh_cons S1 (fun hne => ?_)
      simp only [pick, pickN, List.filterMap_cons, List.filterMap_nil, List.getElem?_cons_zero, List.getElem?_cons_succ, Option.map_some]
      repeat (change wpQuiet _ _ _ _ (_ :: _) _; go_big_quiet_step (fail))
      refine wpQuiet_nil ?_
      refine wpSeqK_step (fun K hK => ?_)
      go_simp
      refine (Hpp.out _ (Hp.out.below (hbelow _ S1))).mono ?_
      rintro e Wd ⟨rfl, hbd⟩
      have S2 := S1.trans (Chg.of_below hbd)
      have B2 : Below W3.heap.size W3 Wd := B1.trans (hbd.mono B1.size)
      have h3d := h3.below B2
      refine hK.out _ _ (fun _ => S2) ?_
      clear hK K hne
      refine wpSeqK_nil ?_
      refine wpPh_cons S2 (fun hne => ?_)
      simp only [pick, pickN, List.filterMap_cons, List.filterMap_nil, List.getElem?_cons_zero, List.getElem?_cons_succ, Option.map_some]
      repeat (change wpQuiet _ _ _ _ (_ :: _) _; go_big_quiet_step (fail))
      refine wpQuiet_nil ?_
      clear hne t3 t5 t0 t6 t7 u0 u1 t9 v0 v1'
      have Sa : Chg (fun k => (Value.slice A3 qs'.length c3).ownBlock = some k) W3 (Wd.alloc (.cells #[.int .i64 (T1 - T0 - G)] 3)) := S2.trans (Chg.of_below ((Below.refl _ _).alloc (Nat.le_refl _) _))
      refine wpSeqK_step (fun K hK => ?_)
      go_simp
      refine hK.out _ _ (fun _ => Sa) ?_
      clear hK K
      refine wpSeqK_step (fun K hK => ?_)
      refine step_append_src _ rfl (.tmp 45) (.tmp 67) 28 rfl W1.heap.size 3 i0 _ 1 8 Try.underlying28 hi0 hz0 hz1 hz2 rfl (by omega) _ qs'.length _ rfl (h3d.o3.alloc _) (some ⟨Wd.heap.size, 0, none⟩) 1 1 [.int .i64 (T1 - T0 - G)] rfl (src_newN (xs := [.int .i64 (T1 - T0 - G)]) rfl rfl) (by simp [Value.oneCell']) (by unfold maxLen; omega) (by omega) (by have := h3d.hW; simp; omega) ?_
      intro A3' c3' w4 hown4 hg4 hat4
      have hlow4 := (grow_low h3d.o3 h3d.hW hg4 _ (by have := h3d.hM; omega)).trans h3d.b3
      have Sb := Sa.trans (Chg.grown_row (h3d.o3.alloc _) hg4)
      refine hK.out _ _ (fun _ => Sb) ?_
      clear hK K
      refine wpSeqK_step (fun K hK => ?_)
      go_simp
      refine hK.out _ _ (fun _ => Sb) ?_
      clear hK K
      have z0 := box_cells hlow4 2
      have z1 := box_frozen hlow4 2
      simp only [List.getElem?_toArray, List.getElem?_cons_zero, List.getElem?_cons_succ] at z0
      refine wpSeqK_step (fun K hK => ?_)
      go_simp
      refine hK.out _ _ (fun h => by cases h) ?_
      clear hK K
      refine wpSeqK_nil ?_
      refine wpPh_nil ?_
      refine NoPanic.normal ?_
      refine then_name (fun W4 => DoW w.heap.size W1.heap.size P (.func fu au cu) (.func fv av cv) W4 (headT tb (qs' ++ [q])) T0 (q.b : Int) (q.to : Int) (.slice A1 (qs'.length + 1) c1) (.slice A2' (qs'.length + 1) c2') (.slice A3' (qs'.length + 1) c3') (qs'.length + 1) (qs'.length + 1) (qs'.length + 1) (valsI ((qs' ++ [q]).map (durP tb te))) (valsI (breaksP tb te (qs' ++ [q])) ++ [.int .i64 (T1 - T0)]) (valsI (restsP d tb te (qs' ++ [q])) ++ [.int .i64 (T1 - T0 - G)]) ∧
          W4.heap[Bx]? = some (.cells #[.int .i64 (p.b : Int), .int .i64 (p.fr : Int), .int .i64 (p.b : Int), .int .i64 (p.to : Int), .int .i64 (p.first : Int)] 126 (0, 0)) ∧ Chg (DoR w.heap.size W1.heap.size) W W4) ?_ (fun W4 hF => ?_)
      · exact ⟨h3d.app3 hg4 hown4 hat4, blk_other (own_grow h3d.o3 ((B2.block Bx (Array.getElem?_eq_some_iff.1 y3).1).trans y3) (by decide) hg4) (by omega) _, ((ch3.trans (Chg.of_below B2)).trans (chg_app h3d.o3 hg4 hRM)).trans (chg_box _ (by omega) _)⟩
      clear z0 z1 hlow4 Sa Sb S0 S1 S2 B1 B2 h3d hown4 hg4 hat4 hbelow
      obtain ⟨h4, y4, ch4⟩ := hF
      have hM4 := h4.hW
      have g30 := box_cells h4.b3 0
      have f30 := box_frozen h4.b3 0
      simp only [List.getElem?_toArray, List.getElem?_cons_zero] at g30
      have HW4 := Lib.hid h4
      clear h4
      gi_wp2_with (refine wpListIn_append_src _ rfl (.tmp 71) (.tmp 75) 28 rfl W1.heap.size 3 i0 _ 1 8 Try.underlying28 hi0 hz0 hz1 hz2 rfl (by omega) _ (qs'.length + 1) _ rfl (HW4.out.o1.alloc _) (some ⟨W4.heap.size, 0, none⟩) 1 1 [.int .i64 (T2 - T1)] rfl (src_newN (xs := [.int .i64 (T2 - T1)]) rfl rfl) (by simp [Value.oneCell']) (by unfold maxLen; omega) (by omega) (by simp; omega) ?_; intro A1' c1' w5 hown5 hg5 hat5; have hlow := (grow_low HW4.out.o1 HW4.out.hW hg5 _ (by have := HW4.out.hM; omega)).trans HW4.out.b3; have g31 := box_cells hlow 0; have f31 := box_frozen hlow 0; simp only [List.getElem?_toArray, List.getElem?_cons_zero] at g31; have Hown5 := Lib.hid hown5; have Hg5 := Lib.hid hg5; have Hat5 := Lib.hid hat5; clear hown5 hg5 hat5 hlow)
      refine wpIn_name (DoFin d tb te w.heap.size W1.heap.size P (.func fu au cu) (.func fv av cv) (qs' ++ [q]) p Bx W) ?_ (fun W6 hF => ?_)
      · refine ⟨⟨.slice A1' (qs'.length + 1 + 1) c1', .slice A2' (qs'.length + 1) c2', .slice A3' (qs'.length + 1) c3', ?_⟩, blk_other (own_grow HW4.out.o1 y4 (by decide) Hg5.out) (by omega) _, ?_⟩
        · have h5 := HW4.out.app1 Hg5.out Hown5.out Hat5.out
          rw [Hlq.out, HLq.out, HBq.out, Hbr.out, Hrs.out, Hdu.out, Hhd.out]
          simp only [valsI, List.map_append, List.map_cons, List.map_nil] at h5 ⊢
          exact h5
        · exact ((ch4.trans (chg_app HW4.out.o1 Hg5.out hRM))).trans (chg_box _ (by omega) _)
      clear HW4 g30 f30 y4 h3 y3
      obtain ⟨⟨u1, u2, u3, h5⟩, y5, ch5⟩ := hF
      have hM5 := h5.hW
      have x2 : W6.cell? ⟨Bx, 2, none⟩ = some (.int .i64 (p.b : Int)) := by rw [box_cells y5]; rfl
      have x3 : W6.cell? ⟨Bx, 3, none⟩ = some (.int .i64 (p.to : Int)) := by rw [box_cells y5]; rfl
      have c5 := box_cells h5.b5 0
      have f5 := box_frozen h5.b5 0
      have c60 := box_cells h5.b6 0
      have c61 := box_cells h5.b6 1
      have f60 := box_frozen h5.b6 0
      have f61 := box_frozen h5.b6 1
      simp only [List.getElem?_toArray, List.getElem?_cons_zero, List.getElem?_cons_succ] at c5 c60 c61
      have hBx5 : Bx ≠ w.heap.size + 1 + 1 + 1 + 1 + 1 := by omega
      refine wpIn_region_noPanic ?_
      refine wpIn_region_pick [0, 1, 2, 3] [4, 5] (fun _ => true) (fun w' => w'.cell? ⟨Bx, 2, none⟩ = some (.int .i64 (p.b : Int)) ∧ w'.cell? ⟨Bx, 3, none⟩ = some (.int .i64 (p.to : Int))) (by kernel_rfl) (by kernel_rfl) (fun ⟨_, _, h⟩ => h) (fun _ _ _ _ _ h => h) ⟨x2, x3⟩ (fun hne => ?_)
      have m0 := fun z : Meets (fun w' => w'.cell? ⟨Bx, 2, none⟩ = some (.int .i64 (p.b : Int)) ∧ w'.cell? ⟨Bx, 3, none⟩ = some (.int .i64 (p.to : Int))) => z.property
      have n0 := fun z => (m0 z).1
      have n1 := fun z => (m0 z).2
      clear m0
      simp only [pick, pickN, List.filterMap_cons, List.filterMap_nil, List.getElem?_cons_zero, List.getElem?_cons_succ, Option.map_some]
      repeat (change wpQuiet _ _ _ _ (_ :: _) _; go_big_quiet_step (fail))
      refine wpQuiet_nil ?_
      clear n0 n1 hne
      refine wpSeqP_step (fun K hK => ?_)
      go_simp
      refine hK.out _ _ (fun _ => ⟨by simpa [go_sem, hBx5] using x2, by simpa [go_sem, hBx5] using x3⟩) ?_
      clear hK K
      refine wpSeqP_step (fun K hK => ?_)
      go_simp
      refine hK.out _ _ (fun _ => ⟨by simpa [go_sem, hBx5] using x2, by simpa [go_sem, hBx5] using x3⟩) ?_
      clear hK K
      refine wpSeqP_nil ?_
      refine NoPanic.normal ?_
      gi_wp2
      have hch := (((ch5.trans (chg_box (o := 0) (k := w.heap.size + 1 + 1 + 1 + 1 + 1) W6 (by omega) (.int .i64 T2))).trans (chg_box (o := 0) (k := w.heap.size + 1 + 1 + 1 + 1 + 1 + 1) _ (by omega) (.int .i64 (p.b : Int)))).trans (chg_box (o := 1) (k := w.heap.size + 1 + 1 + 1 + 1 + 1 + 1) _ (by omega) (.int .i64 (p.to : Int)))).trans (Chg.of_below (Below.refl _ _).drew)
      refine ⟨hch.keepsOthers.from _, hch.keep (fun j hj => ?_), ?_, hch.below hbw hbw.size (fun k hk => ?_)⟩
      · rcases hj with rfl | rfl
        · exact ⟨by omega, fun h => by rcases h with h | h <;> omega⟩
        · exact ⟨by omega, fun h => by rcases h with h | h <;> omega⟩
      · rw [Hqe.out]
        refine ⟨u1, u2, u3, ?_⟩
        have h6 := ((h5.setL T2).setB (p.b : Int) (p.to : Int)).below (Below.refl _ _).drew
        have el1 : ∀ l : List Pc, (l ++ [p]).length = l.length + 1 := fun l => by simp
        have el2 : ∀ l : List Pc, lastT te (l ++ [p]) = T2 := fun l => by simp [lastT, HT2.out]
        have el3 : ∀ l : List Pc, lastB (l ++ [p]) = (p.b, p.to) := fun l => by simp [lastB]
        rw [el1, el2, el3, Nat.add_sub_cancel]
        exact h6
      · rcases hk with h | h <;> omega
  case done =>
    rintro D ys W hD rfl ⟨hdo, hbw⟩ hK
    rw [ups_map ps rfl (fun x => ps[x.1]) (fun x => List.getElem?_eq_getElem x.2) ps.length (Nat.le_refl _), List.take_length] at hdo
    obtain ⟨v1, v2, v3, h⟩ := hdo.st
    have hM := h.hM
    have hMW := h.hW
    obtain ⟨p, hp⟩ : ∃ p, ps.head? = some p := by
      cases e : ps.head? with
      | none => exact absurd (List.head?_eq_none_iff.1 e) hne
      | some p => exact ⟨p, rfl⟩
    obtain ⟨q, hq⟩ : ∃ q, ps.getLast? = some q := by
      cases e : ps.getLast? with
      | none => exact absurd (List.getLast?_eq_none_iff.1 e) hne
      | some q => exact ⟨q, rfl⟩
    have eF : headT tb ps = tb p.b p.fr := by simp [headT, hp]
    have eL : lastT te ps = te q.b q.to := by simp [lastT, hq]
    have eS : spreadP d tb te ps = te q.b q.to + d.law.off - tb p.b p.fr + d.law.on := by simp [spreadP, hp, hq]
    obtain ⟨⟨bl1, bh1⟩, _⟩ := Hbd.out p.b p.fr (hps p (List.mem_of_head? hp)).1
    obtain ⟨_, ⟨bl2, bh2⟩⟩ := Hbd.out q.b q.to (hps q (List.mem_of_getLast? hq)).2
    obtain ⟨ol, oh⟩ := Hd.out.law.off
    obtain ⟨nl, nh⟩ := Hd.out.law.on
    rw [eF, eL] at h
    obtain ⟨T1, hT1⟩ : ∃ z, tb p.b p.fr = z := ⟨_, rfl⟩
    obtain ⟨T2, hT2⟩ : ∃ z, te q.b q.to = z := ⟨_, rfl⟩
    rw [hT1] at h bl1 bh1 eS
    rw [hT2] at h bl2 bh2 eS
    obtain ⟨A1, c1, rfl⟩ := own_form h.o1
    obtain ⟨A2, c2, rfl⟩ := own_form h.o2
    obtain ⟨A3, c3, rfl⟩ := own_form h.o3
    have w1 : IntKind.i64.wrap (T2 + d.law.off) = T2 + d.law.off := IntWalk.i64_in _ (by omega)
    have w2 : IntKind.i64.wrap (T2 + d.law.off - T1) = T2 + d.law.off - T1 := IntWalk.i64_in _ (by omega)
    have w3 : IntKind.i64.wrap (T2 + d.law.off - T1 + d.law.on) = T2 + d.law.off - T1 + d.law.on := IntWalk.i64_in _ (by omega)
    obtain ⟨_, _, _, _, _, _, ⟨_, _, _, _, p4, p5, _, _⟩, _⟩ := (Hp.out.below hbw).cells
    have k5 := box_cells h.b5 0
    have k4 := box_cells h.b4 0
    have k0 := box_cells h.b0 0
    have k33 := box_cells h.b3 3
    have f33 := box_frozen h.b3 3
    simp only [List.getElem?_toArray, List.getElem?_cons_zero, List.getElem?_cons_succ] at k5 k4 k0 k33
    have Hh := Lib.hid h
    have HeS := Lib.hid eS
    clear hp hq hT1 hT2 eF eL eS h hdo
    gi_wp2_with fail
    refine wpIn_wide.2 ?_
    refine wp_region_noPanic ?_
    refine wp_region_pick [0, 1, 2, 3, 4, 5, 6, 7, 8, 9, 10, 11, 12, 13, 14, 15, 16, 17] [18] (fun j => j != 18) (fun w' => Below W.heap.size W w') (by kernel_rfl) (by kernel_rfl) (fun _ _ _ _ _ h => h) (Below.refl _ _).drew (fun hne => ?_)
    have n0 := fun z : Meets (fun w' => Below W.heap.size W w') => cell_below z.property k5
    have n1 := fun z : Meets (fun w' => Below W.heap.size W w') => cell_below z.property k4
    have n2 := fun z : Meets (fun w' => Below W.heap.size W w') => cell_below z.property k0
    have n3 := fun z : Meets (fun w' => Below W.heap.size W w') => cell_below z.property p4
    have n4 := fun z : Meets (fun w' => Below W.heap.size W w') => cell_below z.property p5
    simp only [pick, pickN, List.filterMap_cons, List.filterMap_nil, List.getElem?_cons_zero, List.getElem?_cons_succ, Option.map_some]
    repeat (change wpQuiet _ _ _ _ (_ :: _) _; go_big_quiet_step (fail))
    refine wpQuiet_nil ?_
    clear n0 n1 n2 n3 n4 hne
    refine wpSeqP_step (fun K hK => ?_)
    go_simp
    refine hK.out _ _ (fun h => by cases h) ?_
    clear hK K
    refine wpSeqP_nil ?_
    refine NoPanic.normal ?_
    have hS := HeS.out
    refine then_name (fun W7 => W7.ownsRow W1.heap.size 3 1 (.slice A1 ps.length c1) ps.length (valsI (ps.map (durP tb te))) ∧ W7.ownsRow W1.heap.size 3 1 (.slice A2 (ps.length - 1) c2) (ps.length - 1) (valsI (breaksP tb te ps)) ∧
      W7.ownsRow W1.heap.size 3 1 (.slice A3 (ps.length - 1) c3) (ps.length - 1) (valsI (restsP d tb te ps)) ∧ W7.heap[w.heap.size + 1 + 1 + 1]? = some (.cells #[.slice A1 ps.length c1, .slice A2 (ps.length - 1) c2, .slice A3 (ps.length - 1) c3, .int .i64 (spreadP d tb te ps)] 106 (0, 0)) ∧
      W7.heap[w.heap.size + 1 + 1]? = some (.cells #[.slice none 0 0, .slice none 0 0, .slice none 0 0, .int .i64 0] 106 (0, 0)) ∧ W7.heap[D]? = some (.deferred (some [])) ∧ Below w.heap.size w W7) ?_ (fun W7 hF => ?_)
    · have h := Hh.out
      rw [hS]
      exact ⟨own_setN h.o1 (by simp only; omega) _, own_setN h.o2 (by simp only; omega) _, own_setN h.o3 (by simp only; omega) _, blk_set h.b3 _, blk_other h.b2 (by omega) _, (KeepsOthers.setCell _ _ _).same _ _ hK rfl, (hbw.setCell (p := ⟨w.heap.size + 1 + 1 + 1, 3, none⟩) (by simp only; omega) _).drew⟩
    obtain ⟨o1, o2, o3, b3, b2, hD7, hb7⟩ := hF
    clear Hh HeS hS k5 k4 k0 k33 f33 p4 p5 w1 w2 w3
    have j0 := box_cells b3 0
    have j1 := box_cells b3 1
    have j2 := box_cells b3 2
    have j3 := box_cells b3 3
    have l0 := box_cells b2 0
    have l1 := box_cells b2 1
    have l2 := box_cells b2 2
    have l3 := box_cells b2 3
    have m0 := box_frozen b2 0
    have m1 := box_frozen b2 1
    have m2 := box_frozen b2 2
    have m3 := box_frozen b2 3
    simp only [List.getElem?_toArray, List.getElem?_cons_zero, List.getElem?_cons_succ] at j0 j1 j2 j3 l0 l1 l2 l3
    have hDne : D ≠ w.heap.size + 1 + 1 := by omega
    have HO1 := Lib.hid o1
    have HO2 := Lib.hid o2
    have HO3 := Lib.hid o3
    have HD := Lib.hid hD7
    have Hb3 := Lib.hid b3
    have Hb2 := Lib.hid b2
    clear o1 o2 o3 hD7 b3 b2
    gi_wp2
    have hM2 : w.heap.size + 1 + 1 < W1.heap.size := by omega
    have q1 := own_setN (own_setN (own_setN (own_setN HO1.out (p := ⟨w.heap.size + 1 + 1, 0, none⟩) hM2 (.slice A1 ps.length c1)) (p := ⟨w.heap.size + 1 + 1, 1, none⟩) hM2 (.slice A2 (ps.length - 1) c2)) (p := ⟨w.heap.size + 1 + 1, 2, none⟩) hM2 (.slice A3 (ps.length - 1) c3)) (p := ⟨w.heap.size + 1 + 1, 3, none⟩) hM2 (.int .i64 (spreadP d tb te ps))
    have q2 := own_setN (own_setN (own_setN (own_setN HO2.out (p := ⟨w.heap.size + 1 + 1, 0, none⟩) hM2 (.slice A1 ps.length c1)) (p := ⟨w.heap.size + 1 + 1, 1, none⟩) hM2 (.slice A2 (ps.length - 1) c2)) (p := ⟨w.heap.size + 1 + 1, 2, none⟩) hM2 (.slice A3 (ps.length - 1) c3)) (p := ⟨w.heap.size + 1 + 1, 3, none⟩) hM2 (.int .i64 (spreadP d tb te ps))
    have q3 := own_setN (own_setN (own_setN (own_setN HO3.out (p := ⟨w.heap.size + 1 + 1, 0, none⟩) hM2 (.slice A1 ps.length c1)) (p := ⟨w.heap.size + 1 + 1, 1, none⟩) hM2 (.slice A2 (ps.length - 1) c2)) (p := ⟨w.heap.size + 1 + 1, 2, none⟩) hM2 (.slice A3 (ps.length - 1) c3)) (p := ⟨w.heap.size + 1 + 1, 3, none⟩) hM2 (.int .i64 (spreadP d tb te ps))
    have q4 := blk_set (o := 3) (blk_set (o := 2) (blk_set (o := 1) (blk_set (o := 0) Hb2.out (.slice A1 ps.length c1)) (.slice A2 (ps.length - 1) c2)) (.slice A3 (ps.length - 1) c3)) (.int .i64 (spreadP d tb te ps))
    have q5 := (((KeepsOthers.setCell W7 ⟨w.heap.size + 1 + 1, 0, none⟩ (.slice A1 ps.length c1)).trans (KeepsOthers.setCell _ ⟨w.heap.size + 1 + 1, 1, none⟩ (.slice A2 (ps.length - 1) c2))).trans (KeepsOthers.setCell _ ⟨w.heap.size + 1 + 1, 2, none⟩ (.slice A3 (ps.length - 1) c3))).trans (KeepsOthers.setCell _ ⟨w.heap.size + 1 + 1, 3, none⟩ (.int .i64 (spreadP d tb te ps)))
    have q6 := (((hb7.setCell (p := ⟨w.heap.size + 1 + 1, 0, none⟩) (by simp only; omega) (.slice A1 ps.length c1)).setCell (p := ⟨w.heap.size + 1 + 1, 1, none⟩) (by simp only; omega) (.slice A2 (ps.length - 1) c2)).setCell (p := ⟨w.heap.size + 1 + 1, 2, none⟩) (by simp only; omega) (.slice A3 (ps.length - 1) c3)).setCell (p := ⟨w.heap.size + 1 + 1, 3, none⟩) (by simp only; omega) (.int .i64 (spreadP d tb te ps))
    have hD8 := q5.same _ _ HD.out rfl
    clear j0 j1 j2 j3 l0 l1 l2 l3 m0 m1 m2 m3
    generalize (((W7.setCell ⟨w.heap.size + 1 + 1, 0, none⟩ (.slice A1 ps.length c1)).setCell ⟨w.heap.size + 1 + 1, 1, none⟩ (.slice A2 (ps.length - 1) c2)).setCell ⟨w.heap.size + 1 + 1, 2, none⟩ (.slice A3 (ps.length - 1) c3)).setCell ⟨w.heap.size + 1 + 1, 3, none⟩ (.int .i64 (spreadP d tb te ps)) = W8 at *
    have hOpen : OpenMarks w.heap.size W8 [D] := ⟨by simp, fun d' hd' => by
      simp only [List.mem_singleton] at hd'
      subst hd'
      exact ⟨by omega, hD8⟩⟩
    refine leaves_marks w.heap.size [D] W8 hOpen (fun W' hb' hk' => ?_)
    have r4 := hk' _ _ q4 rfl
    have own : ∀ {v : Value} {n : Nat} {xs : List Value}, W8.ownsRow W1.heap.size 3 1 v n xs → W'.ownsRow W1.heap.size 3 1 v n xs := by
      intro v n xs h
      refine ⟨h.1, ?_⟩
      rcases h.2 with h0 | ⟨g, cap, cur, h1, h2, h3, h4⟩
      · exact .inl h0
      · exact .inr ⟨g, cap, cur, h1, h2, hk' _ _ h3 rfl, h4⟩
    have z0 := box_cells r4 0
    have z1 := box_cells r4 1
    have z2 := box_cells r4 2
    have z3 := box_cells r4 3
    simp only [List.setIfInBounds_toArray, List.set_cons_succ, List.set_cons_zero, List.getElem?_toArray, List.getElem?_cons_zero, List.getElem?_cons_succ] at z0 z1 z2 z3
    refine ⟨.agg #[.slice A1 ps.length c1, .slice A2 (ps.length - 1) c2, .slice A3 (ps.length - 1) c3, .int .i64 (spreadP d tb te ps)], ?_, ⟨A1, A2, A3, c1, c2, c3, rfl, ?_, ?_, ?_, ?_, q6.trans hb'⟩⟩
    · simp [results, Try.results51, go_sem, z0, z1, z2, z3]
    · have h := nums_of_own (n := ps.length) (l := ps.map (durP tb te)) (own q1)
      exact h
    · exact nums_of_own (own q2)
    · exact nums_of_own (own q3)
    · exact own_mono (own q2) (by omega)
  case stop =>
    rintro D c pre W _ _ h _
    exact h.elim
end Go.Proofs.Ytllobkhdeahgpaa
