import Derived.Test.YtobeffjdfhkjeaaFrame
set_option linter.unusedVariables false
set_option linter.unusedSimpArgs false
namespace Go.Proofs.Ytobeffjdfhkjeaa
open Go Go.RowKit Go.ChangeShapes Go.WideShapes Go.ChangeAt
section
open Go.Joins Go.Deep
variable {H : Type} {enc : TypeId × Value → H} {W w : World} {base : Nat} {spare : Nat → Bool} {held : Bool}
theorem nums_openU {t e : TypeId} {fuel : Nat} {v : Value} {x : DataW H × List MemPlace} (ht : Try.prog.underlying t = some (.slice e)) (he : Try.prog.underlying e = some (.int .u32)) (hc : Try.prog.cellsOf e = 1)
    (h : DataW.trod enc Try.prog w base spare held fuel t [v] = some x) : ∃ l, NumsAt .u32 w v l ∧ ∀ x ∈ l, 0 ≤ x ∧ x ≤ 4294967295 := by
  rcases open_ints ht he hc h with ⟨h1, _⟩ | ⟨a, len, cap, zs, h1, _, hl, hm, hz, _, hat, hwf⟩
  · obtain rfl : v = .slice none 0 0 := by simpa using h1
    exact ⟨[], ⟨none, 0, rfl, by simp, by simp [maxLen], by simp⟩, by simp⟩
  · obtain rfl : v = .slice (some a) len cap := by simpa using h1
    have hzl : len ≤ zs.length := by rw [hz]; split <;> omega
    refine ⟨zs.take len, ⟨some a, cap, ?_, by simp; omega, hm, fun hp => ?_⟩, fun y hy => ?_⟩
    · rw [List.length_take, Nat.min_eq_left hzl]
    · rw [List.length_take, Nat.min_eq_left hzl] at hp
      have h0 := hat 0 (by omega)
      rw [show a.add 0 = a by simp [Addr.add]] at h0
      have ha := addr_none h0
      refine ⟨a.block, a.off, by rw [← ha], fun k hk => ?_⟩
      rw [List.length_take, Nat.min_eq_left hzl] at hk
      have hk' := hat k (by omega)
      rw [ha] at hk'
      have e1 : (Addr.add ⟨a.block, a.off, none⟩ k) = ⟨a.block, a.off + k, none⟩ := by
        unfold Addr.add
        split
        · rename_i h; subst h; rfl
        · rfl
      rw [e1] at hk'
      rw [hk', List.getElem?_take, if_pos hk, List.getD_eq_getElem?_getD]
    · have := hwf y (List.mem_of_mem_take hy)
      simp [Lit.wf, IntKind.min, IntKind.max, IntKind.signed, IntKind.bits] at this
      omega
set_option maxRecDepth 100000 in
theorem u32s_arg {r : Reach} {b0 : Nat} {v : Value} {d : DataW H} {p : List MemPlace}
    (hv : Value.okWide Try.prog W r b0 82 v) (h : DataW.Trod enc Try.prog W base spare held 82 v d p) : ∃ ws, NumsAt .u32 W v ws ∧ ∀ x ∈ ws, 0 ≤ x ∧ x ≤ 4294967295 := by
  obtain ⟨a, len, cap, rfl⟩ := okWide_slice Try.underlying82 hv
  obtain ⟨fuel, h1⟩ := h
  exact nums_openU Try.underlying82 Try.underlying74 (by kernel_rfl) h1
theorem u32_wf {n : Int} (h : (Lit.int .u32 n).wf = true) : 0 ≤ n ∧ n ≤ 4294967295 := by
  simp [Lit.wf, IntKind.min, IntKind.max, IntKind.signed, IntKind.bits] at h
  omega
end
end Go.Proofs.Ytobeffjdfhkjeaa
