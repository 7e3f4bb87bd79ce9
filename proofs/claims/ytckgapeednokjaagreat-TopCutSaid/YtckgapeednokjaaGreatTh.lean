import Derived.Test.YtckgapeednokjaaGreatE3
import Derived.Test.YtckgapeednokjaaGreatTg
set_option linter.unusedVariables false
set_option linter.unusedSimpArgs false
namespace Go.Proofs.YtckgapeednokjaaGreat
open Go Go.Proofs Go.RowKit

/-! ### The reference: a cutting -/
theorem blocks_len : ∀ {c : List (List Nat)}, (∀ b ∈ c, b ≠ []) → c.length ≤ c.flatten.length
  | [], _ => by simp
  | a :: l, hne => by
    have h2 := blocks_len (c := l) fun b hb => hne b (by simp [hb])
    have h3 := List.length_pos_iff.2 (hne a (by simp))
    simp only [List.length_cons, List.flatten_cons, List.length_append]
    omega
def seenB (N : Nat) (L : List Nat) : List Bool := (List.range N).map fun x => decide (x ∈ L)
theorem seenB_get {N x : Nat} (L : List Nat) (h : x < N) : (seenB N L)[x]? = some (decide (x ∈ L)) := by
  unfold seenB
  rw [List.getElem?_map, List.getElem?_range h]
  rfl
theorem seenB_len (N : Nat) (L : List Nat) : (seenB N L).length = N := by simp [seenB]
theorem seenB_nil (N : Nat) : seenB N [] = List.replicate N false := by
  unfold seenB
  simp [List.map_const']
theorem seenB_set {N x : Nat} (L : List Nat) (h : x < N) : (seenB N L).set x true = seenB N (L ++ [x]) := by
  refine List.ext_getElem? fun j => ?_
  rw [List.getElem?_set, seenB_len]
  by_cases e : x = j
  · subst e
    rw [if_pos rfl, if_pos h, seenB_get _ h]
    simp
  · rw [if_neg e]
    by_cases hj : j < N
    · rw [seenB_get _ hj, seenB_get _ hj]
      have : ¬ j = x := fun h => e h.symm
      simp [this]
    · rw [List.getElem?_eq_none (by rw [seenB_len]; omega), List.getElem?_eq_none (by rw [seenB_len]; omega)]
theorem take_flat {c : List (List Nat)} {i : Nat} {b : List Nat} (h : c[i]? = some b) : (c.take (i + 1)).flatten = (c.take i).flatten ++ b := by
  rw [List.take_add_one, h]
  simp
theorem cut_new {c : List (List Nat)} {i k x : Nat} {b : List Nat} (hn : c.flatten.Nodup) (hb : c[i]? = some b) (hx : b[k]? = some x) : x ∉ (c.take i).flatten ++ b.take k := by
  have e1 : c.flatten = (c.take (i + 1)).flatten ++ (c.drop (i + 1)).flatten := by rw [← List.flatten_append, List.take_append_drop]
  have e2 : b = (b.take k ++ [x]) ++ b.drop (k + 1) := by
    have h1 : b.take (k + 1) = b.take k ++ [x] := by rw [List.take_add_one, hx]; rfl
    rw [← h1, List.take_append_drop]
  rw [e1, take_flat hb, e2] at hn
  have h3 : ((c.take i).flatten ++ b.take k ++ [x]).Nodup := by
    have h4 : ((c.take i).flatten ++ b.take k ++ [x] ++ (b.drop (k + 1) ++ (c.drop (i + 1)).flatten)).Nodup := by simpa [List.append_assoc] using hn
    exact (List.nodup_append.1 h4).1
  intro hm
  exact (List.nodup_append.1 h3).2.2 x hm x (by simp) rfl
theorem infoBo : (Tryz.prog.info? 4).map (fun i => (i.zero, i.size, i.bytes)) = some (some (.bool false), 1, 1) := by kernel_rfl
set_option maxRecDepth 100000 in
set_option maxHeartbeats 3200000 in
theorem IsCutting_ok (t : Tab) (u z v : Value) (c : List (List Nat)) (w : World) (hT : TabAt w u z t) (ht : TabOk t) (hv : RowsAt w v (c.map natsI)) (hc : IsCut t.trips.length (May t) c) :
    Calls Tryz.prog 18 #[.agg #[.int .i64 t.places, .int .i64 t.lay, u, z], v] w (Gives w (.bool true)) := by
  obtain ⟨A1, c1, rfl, _, _⟩ := hT.rows.form
  obtain ⟨A2, c2, rfl, _, _⟩ := hT.trips.form
  obtain ⟨A3, c3, rfl, _, _⟩ := hv.form
  obtain ⟨i0, hi0, hz0, hz1, hz2⟩ := info_parts infoBo
  have hw0 : Below w.heap.size w (w.alloc (.cells #[.int .i64 t.places, .int .i64 t.lay, .slice A1 t.empty.length c1, .slice A2 t.trips.length c2] 48)) := (Below.refl _ _).alloc (Nat.le_refl _) _
  have G0 := Lib.hid (heap_alloc_new w (.cells #[.int .i64 t.places, .int .i64 t.lay, .slice A1 t.empty.length c1, .slice A2 t.trips.length c2] 48 (0, 0)))
  have HT := Lib.hid hT
  have Ht := Lib.hid ht
  have h12 := ht.trips
  obtain ⟨N, hN⟩ : ∃ N, t.trips.length = N := ⟨_, rfl⟩
  have HN := Lib.hid hN
  rw [hN] at hc
  obtain ⟨C, hC⟩ : ∃ C, c.length = C := ⟨_, rfl⟩
  have HC := Lib.hid hC
  have hmC : (c.map natsI).length = C := by rw [List.length_map, hC]
  have Hv := Lib.hid hv
  rw [hmC] at Hv ⊢
  have HMay := Lib.hid (fun (u z : Value) (V : World) (h : TabAt V u z t) (i k : Nat) (hi : i < N) (hk : k < N) (hm : May t i k) => (Gives.to hm (May1_any t u z V h ht i k (by omega) (by omega))))
  have Hc := Lib.hid hc
  rw [hN] at h12 G0 hw0 ⊢
  have hC12 : C ≤ 12 := by
    have h1 := blocks_len hc.ne
    rw [hc.all, hC] at h1
    omega
  clear hT ht hN hc hC hmC hv
  go_enter Tryz.func18, Tryz.ntmps18
  have gc := box_cells G0.out
  have gf := box_frozen G0.out
  go_upto_region 1 with (fail)
  refine wp_name (fun W => Below w.heap.size w W ∧ W.heap[w.heap.size]? = some (.cells #[.int .i64 t.places, .int .i64 t.lay, .slice A1 t.empty.length c1, .slice A2 N c2] 48 (0, 0))) ⟨hw0, G0.out⟩ (fun w1 hW => ?_)
  obtain ⟨hw1, g1⟩ := hW
  have G1 := Lib.hid g1
  clear g1
  replace gc := box_cells G1.out
  replace gf := box_frozen G1.out
  clear hw0 G0
  go_upto_region 2 with (at_make; refine wpList_make_full _ rfl _ _ 129 rfl w1.heap.size 4 i0 _ 1 Tryz.underlying129 hi0 hz0 hz1 _ _ _ _ N rfl rfl rfl rfl (by rw [hz2]; omega) (by simp [maxLen]; omega) (Nat.le_refl _) ?_; intro wm hownm hgm; have hbm : Below w1.heap.size w1 wm := (Below.refl _ _).grown hgm (Nat.le_refl _) (by simp); have Hownm := Lib.hid hownm; clear hownm hgm)
  have hmade : (madeCells (Value.bool false).cells (N * 1)).toList = (seenB N []).map .bool := by
    rw [seenB_nil, Nat.mul_one, List.map_replicate]
    exact toList_madeCells_one _ _
  have hbk := block_own Hownm.out
  rw [hmade] at hbk
  have hwm := hw1.trans (hbm.mono hw1.size)
  have Gm := Lib.hid (box_stepR hbm G1.out)
  have hglt : w.heap.size < w1.heap.size := (Array.getElem?_eq_some_iff.1 G1.out).1
  obtain ⟨g, hg⟩ : ∃ g, w1.heap.size = g := ⟨_, rfl⟩
  rw [hg] at hbk hglt ⊢
  have Hbk := Lib.hid hbk
  replace gc := box_cells Gm.out
  replace gf := box_frozen Gm.out
  clear hmade Hownm hbk hbm hg
  go_wp2
  go_loopw [6, 7] (fun nv iv wr => ∃ i : Nat, i ≤ C ∧ iv = .int .i64 (i : Int) ∧ nv = .int .i64 ((c.take i).flatten.length : Int) ∧ Below g wm wr ∧ wr.heap[g]? = some (.cells ((seenB N (c.take i).flatten).map .bool).toArray 4 (0, 0))) (fun _ iv _ => C - (intOf iv).toNat)
  case atStart => exact ⟨0, by omega, rfl, rfl, Below.refl _ _, Hbk.out⟩
  case round =>
    obtain ⟨i, hi, rfl, rfl, hbr, hsn⟩ := hrel
    obtain ⟨wo, rfl⟩ : ∃ wo : World, wo = wr := ⟨_, rfl⟩
    have hwo := hwm.trans (hbr.mono (Nat.le_of_lt hglt))
    have Go := Lib.hid ((hbr.block _ hglt).trans Gm.out)
    replace gc := box_cells Go.out
    replace gf := box_frozen Go.out
    have Hsn := Lib.hid hsn
    have Hbr := Lib.hid hbr
    clear hsn hbr
    by_cases hlt : i < C
    · obtain ⟨b, hb⟩ : ∃ b, c[i]? = some b := ⟨_, List.getElem?_eq_getElem (by rw [HC.out]; exact hlt)⟩
      obtain ⟨b1, o1, l, u, eA, hl, hu, hn, _⟩ := (Hv.out.below hwo).at_ (k := i) (by rw [List.length_map, HC.out]; exact hlt)
      subst eA
      obtain ⟨A4, c4, rfl, _, _⟩ := hn.form
      have hle : l = natsI b := by rw [List.getElem?_map, hb] at hl; simpa using hl.symm
      subst hle
      obtain ⟨B, hB⟩ : ∃ B, b.length = B := ⟨_, rfl⟩
      have HB := Lib.hid hB
      have hB0 : 0 < B := by rw [← hB]; exact List.length_pos_iff.2 (Hc.out.ne b (List.mem_of_getElem? hb))
      have hBN : (c.take i).flatten.length + B ≤ N := by
        have h1 : c.flatten = (c.take (i + 1)).flatten ++ (c.drop (i + 1)).flatten := by rw [← List.flatten_append, List.take_append_drop]
        have h2 := congrArg List.length h1
        rw [Hc.out.all, take_flat hb, List.length_append, List.length_append, hB] at h2
        omega
      rw [natsI_len, hB] at hu hn
      obtain ⟨L, hL⟩ : ∃ L, (c.take i).flatten.length = L := ⟨_, rfl⟩
      have HL := Lib.hid hL
      rw [hL] at hBN ⊢
      have Hn := Lib.hid hn
      have Hb := Lib.hid hb
      clear hn hl hb hB hL
      have hB0I : ((B : Int) == 0) = false := by simp; omega
      have Hu := Lib.hid hu
      go_wp2
      go_loopw [6, 8] (fun nv kv wr => ∃ k : Nat, k ≤ B ∧ kv = .int .i64 (k : Int) ∧ nv = .int .i64 ((L + k : Nat) : Int) ∧ Below g wm wr ∧ wr.heap[g]? = some (.cells ((seenB N ((c.take i).flatten ++ b.take k)).map .bool).toArray 4 (0, 0))) (fun _ kv _ => B - (intOf kv).toNat)
      case atStart => exact ⟨0, by omega, rfl, rfl, Hbr.out, by rw [List.take_zero, List.append_nil]; exact Hsn.out⟩
      case round =>
        obtain ⟨k, hk, rfl, rfl, hbp, hsp⟩ := hrel
        obtain ⟨wp, rfl⟩ : ∃ wp : World, wp = wr := ⟨_, rfl⟩
        have hwp := hwm.trans (hbp.mono (Nat.le_of_lt hglt))
        have Gp := Lib.hid ((hbp.block _ hglt).trans Gm.out)
        replace gc := box_cells Gp.out
        replace gf := box_frozen Gp.out
        have Hsp := Lib.hid hsp
        have Hbp := Lib.hid hbp
        clear hsp hbp
        obtain ⟨b2, o2, l2, u2, eA, hl2, hu2, hn2, _⟩ := (Hv.out.below hwp).at_ (k := i) (by rw [List.length_map, HC.out]; exact hlt)
        cases eA
        have hle2 : l2 = natsI b := by rw [List.getElem?_map, Hb.out] at hl2; simpa using hl2.symm
        subst hle2
        obtain ⟨A5, c5, rfl, _, _⟩ := hn2.form
        rw [natsI_len, HB.out] at hu2 hn2
        have Hn2 := Lib.hid hn2
        clear hn2 hl2
        by_cases hkB : k < B
        · skip
          obtain ⟨b3, o3, y, eA, hy, cy, _⟩ := Hn2.out.at_ (k := k) (by rw [natsI_len, HB.out]; exact hkB)
          subst eA
          obtain ⟨x, rfl, hx⟩ := natsI_get hy
          have hxN : x < N := by
            have h1 := Hc.out.lt x (List.mem_flatten.2 ⟨b, List.mem_of_getElem? Hb.out, List.mem_of_getElem? hx⟩)
            exact h1
          have hnew := cut_new Hc.out.once Hb.out hx
          have hsx : wp.cell? ⟨g, x, none⟩ = some (.bool false) := by
            rw [box_cells Hsp.out x, List.getElem?_toArray, List.getElem?_map, seenB_get _ hxN, decide_eq_false hnew]
            rfl
          have hset : (seenB N ((c.take i).flatten ++ b.take k)).set x true = seenB N ((c.take i).flatten ++ b.take (k + 1)) := by
            rw [seenB_set _ hxN, List.append_assoc, List.take_add_one, hx]
            rfl
          have Hset := Lib.hid hset
          have Hx := Lib.hid hx
          have HIn := Lib.hid (inB_true (n := (x : Int)) (lo := 0) (hi := (N : Int) - 1) ⟨by omega, by omega⟩)
          have hfz := box_frozen Hsp.out x
          have Hfz := Lib.hid hfz
          have HT2 := Lib.hid (HT.out.below hwp)
          have hLk : L + k < N := by omega
          clear hy hnew hset hx
          have f0 := Later.cell (gc 0)
          have f1 := Later.cell (gc 1)
          have f2 := Later.cell (gc 2)
          have f3 := Later.cell (gc 3)
          have f4 := Later.cell hsx
          have f5 := Later.cell hu2
          have f6 := Later.cell cy
          by_cases hk0 : k = 0
          · skip
            have q4 : decide (0 < k) = false := by simp; omega
            clear hk0
            go_upto_region 12 with (fail)
            refine wp_region_later (by kernel_rfl) (by kernel_rfl) ?_
            repeat (go_big_quiet_step (((go_at_call 44; exact Later.call (Same.gives (Same.to HIn.out (InR_same _ _ _ _)))))))
            refine wpQuiet_nil ?_
            intro wq hxq
            have hbq := Later.out hxq
            clear hxq f0 f1 f2 f3 f4 f5 f6 
            have hsq := box_stepR hbq Hsp.out
            have hfq := box_frozen hsq
            have Hsq := Lib.hid hsq
            have hcq := cell_below hbq hsx
            clear hsq gc gf hsx
            go_wp2
            go_roundw
            case rel =>
              have e1 := blk_set Hsq.out (o := x) (.bool true)
              refine ⟨k + 1, by omega, by go_num, by go_num, (Hbp.out.trans (hbq.mono (by have := (Array.getElem?_eq_some_iff.1 Hsp.out).1; omega))).setCell (p := ⟨g, x, none⟩) (Nat.le_refl _) _, ?_⟩
              rw [e1, ← Hset.out]
              congr 2
              apply Array.ext'
              simp [List.map_set]
            case measure => simp [intOf]; omega
          · skip
            obtain ⟨j, hj⟩ : ∃ j, k = j + 1 := ⟨k - 1, by omega⟩
            obtain ⟨b4, o4, p, eA, hp, cp, _⟩ := Hn2.out.at_ (k := j) (by rw [natsI_len, HB.out]; omega)
            cases eA
            obtain ⟨q, rfl, hq⟩ := natsI_get hp
            have hqN : q < N := Hc.out.lt q (List.mem_flatten.2 ⟨b, List.mem_of_getElem? Hb.out, List.mem_of_getElem? hq⟩)
            have hMy : May t q x := Hc.out.may b (List.mem_of_getElem? Hb.out) j q x hq (by rw [← hj]; exact Hx.out)
            have HMy := Lib.hid (fun (X : Later wp) => HMay.out _ _ X.val (HT2.out.below X.property) q x hqN hxN hMy)
            rw [HN.out] at HMy
            have q1 : IntKind.i64.wrap ((k : Int) - 1) = (j : Int) := by rw [IntWalk.i64_in _ (by omega)]; omega
            have q2 : (k : Int) - 1 = (j : Int) := by omega
            have q3 : (j : Int) < (B : Int) := by omega
            have q4 : decide (0 < k) = true := by simp; omega
            have f7 := Later.cell cp
            clear hp hq hMy hj
            go_upto_region 12 with (fail)
            refine wp_region_later (by kernel_rfl) (by kernel_rfl) ?_
            repeat (go_big_quiet_step ((first | (go_at_call 44; exact Later.call (Same.gives (Same.to HIn.out (InR_same _ _ _ _)))) | (go_at_call 50; exact Later.call (HMy.out _)))))
            refine wpQuiet_nil ?_
            intro wq hxq
            have hbq := Later.out hxq
            clear hxq f0 f1 f2 f3 f4 f5 f6 f7
            have hsq := box_stepR hbq Hsp.out
            have hfq := box_frozen hsq
            have Hsq := Lib.hid hsq
            have hcq := cell_below hbq hsx
            clear hsq gc gf hsx
            go_wp2
            go_roundw
            case rel =>
              have e1 := blk_set Hsq.out (o := x) (.bool true)
              refine ⟨k + 1, by omega, by go_num, by go_num, (Hbp.out.trans (hbq.mono (by have := (Array.getElem?_eq_some_iff.1 Hsp.out).1; omega))).setCell (p := ⟨g, x, none⟩) (Nat.le_refl _) _, ?_⟩
              rw [e1, ← Hset.out]
              congr 2
              apply Array.ext'
              simp [List.map_set]
            case measure => simp [intOf]; omega
        · obtain rfl : k = B := by omega
          have hfl : (c.take i).flatten ++ b.take k = (c.take (i + 1)).flatten := by rw [take_flat Hb.out, show b.take k = b from List.take_of_length_le (by rw [HB.out]; exact Nat.le_refl _)]
          have hll : L + k = (c.take (i + 1)).flatten.length := by rw [take_flat Hb.out, List.length_append, HL.out, HB.out]
          have hsp2 := Hsp.out
          rw [hfl] at hsp2
          have Hsp2 := Lib.hid hsp2
          have Hll := Lib.hid hll
          clear hsp2 hfl hll
          go_wp2
          go_roundw
          case rel => exact ⟨i + 1, by omega, by go_num, by rw [Hll.out], Hbp.out, Hsp2.out⟩
          case measure => simp [intOf]; omega
    · obtain rfl : i = C := by omega
      have hall : (c.take i).flatten.length = N := by rw [List.take_of_length_le (by rw [HC.out]; exact Nat.le_refl _)]; exact Hc.out.all
      rw [hall]
      clear hall
      go_wp2
      go_ret
      exact ⟨rfl, hwo⟩
end Go.Proofs.YtckgapeednokjaaGreat
