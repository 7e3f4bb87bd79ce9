import Derived.Test.YtllobkhdeahgpaaN3
set_option linter.unusedVariables false
set_option linter.unusedSimpArgs false
namespace Go.Proofs.Ytllobkhdeahgpaa
open Go Go.Proofs Go.RowKit

/-- The first region of this number in a piece of code. -/
def regAt (n : Nat) : Code → Option (Array Oper)
  | .region id ops _ => if id = n then some ops else none
  | .seq a b => (regAt n a).or (regAt n b)
  | .cond _ a b => (regAt n a).or (regAt n b)
  | .block _ b => regAt n b
  | .loop b => regAt n b
  | _ => none
noncomputable def lops : List Oper := ((Try.f10.body.bind (regAt 8)).getD #[]).toList
theorem phB_step {md : Region.Mode} {ops : Array Oper} {kp : Nat → Bool} {fs rs : List Nat} {r : List (List Nat × List Nat)} {L : Array Bool} (h1 : frontPickB md ops kp fs L = true) (h2 : seqKB md ops rs (listAll fs L) = true) (h3 : (rs.all fun i => decide (i < ops.size)) = true)
    (h4 : phB md ops kp r (listAll rs (listAll fs L)) = true) : phB md ops kp ((fs, rs) :: r) L = true := by
  simp only [phB, h1, h2, h3, h4, Bool.and_self]
def kpT : Nat → Bool := fun _ => true
theorem want_of {ops : List Oper} {o : Oper} {k s : Nat} {t : Array Value} {ok : Oper} {b : Bool} (hg : o.guard = some (k, b)) (ho : ops[k]? = some ok) (hd : ok.dst = some s) (hv : t[s]? = some (.bool b)) : Region.wanted o (yielded ops.toArray t) = true := by
  unfold Region.wanted
  rw [hg]
  simp [yielded, ho, hd, hv]
theorem region_is {P : Program} {n : Nat} {ops : Array Oper} {b : Bool} {Q : Exit → Act → World → Prop} {a : Act} {w : World} (l : List Oper) (e : ops = l.toArray) (h : ops = l.toArray → (Code.region n l.toArray b).wp P Q a w) : (Code.region n ops b).wp P Q a w := by
  have h2 := h e
  rw [← e] at h2
  exact h2
noncomputable def L0 : Array Bool := Array.replicate lops.toArray.size false
noncomputable def L1 : Array Bool := listAll [31, 32] (listAll [0, 1, 2, 3, 4, 5, 6, 7, 8, 9, 10, 11, 12, 13, 14, 15, 16, 17, 18, 19, 20, 21, 22, 23, 24, 25, 26, 27, 28, 29, 30] L0)
noncomputable def L2 : Array Bool := listAll [53, 54] (listAll [33, 34, 35, 36, 37, 38, 39, 40, 41, 42, 43, 44, 45, 46, 47, 48, 49, 50, 51, 52] L1)
noncomputable def L3 : Array Bool := listAll [61, 62] (listAll [55, 56, 57, 58, 59, 60] L2)
noncomputable def L4 : Array Bool := listAll [69, 70] (listAll [63, 64, 65, 66, 67, 68] L3)
noncomputable def L5 : Array Bool := listAll [79, 80] (listAll [71, 72, 73, 74, 75, 76, 77, 78] L4)
noncomputable def L6 : Array Bool := listAll [84, 86] (listAll [81, 82, 83, 85] L5)
noncomputable def L7 : Array Bool := listAll [90, 93, 94] (listAll [87, 88, 89, 91, 92] L6)
set_option maxRecDepth 100000 in
theorem ph_a0 : frontPickB .any lops.toArray kpT [0, 1, 2, 3, 4, 5, 6, 7, 8, 9, 10, 11, 12, 13, 14, 15, 16, 17, 18, 19, 20, 21, 22, 23, 24, 25, 26, 27, 28, 29, 30] L0 = true := by kernel_rfl
set_option maxRecDepth 100000 in
theorem ph_b0 : (seqKB .any lops.toArray [31, 32] (listAll [0, 1, 2, 3, 4, 5, 6, 7, 8, 9, 10, 11, 12, 13, 14, 15, 16, 17, 18, 19, 20, 21, 22, 23, 24, 25, 26, 27, 28, 29, 30] L0) && ([31, 32].all fun i => decide (i < lops.toArray.size))) = true := by kernel_rfl
set_option maxRecDepth 100000 in
theorem ph_a1 : frontPickB .any lops.toArray kpT [33, 34, 35, 36, 37, 38, 39, 40, 41, 42, 43, 44, 45, 46, 47, 48, 49, 50, 51, 52] L1 = true := by kernel_rfl
set_option maxRecDepth 100000 in
theorem ph_b1 : (seqKB .any lops.toArray [53, 54] (listAll [33, 34, 35, 36, 37, 38, 39, 40, 41, 42, 43, 44, 45, 46, 47, 48, 49, 50, 51, 52] L1) && ([53, 54].all fun i => decide (i < lops.toArray.size))) = true := by kernel_rfl
set_option maxRecDepth 100000 in
theorem ph_a2 : frontPickB .any lops.toArray kpT [55, 56, 57, 58, 59, 60] L2 = true := by kernel_rfl
set_option maxRecDepth 100000 in
theorem ph_b2 : (seqKB .any lops.toArray [61, 62] (listAll [55, 56, 57, 58, 59, 60] L2) && ([61, 62].all fun i => decide (i < lops.toArray.size))) = true := by kernel_rfl
set_option maxRecDepth 100000 in
theorem ph_a3 : frontPickB .any lops.toArray kpT [63, 64, 65, 66, 67, 68] L3 = true := by kernel_rfl
set_option maxRecDepth 100000 in
theorem ph_b3 : (seqKB .any lops.toArray [69, 70] (listAll [63, 64, 65, 66, 67, 68] L3) && ([69, 70].all fun i => decide (i < lops.toArray.size))) = true := by kernel_rfl
set_option maxRecDepth 100000 in
theorem ph_a4 : frontPickB .any lops.toArray kpT [71, 72, 73, 74, 75, 76, 77, 78] L4 = true := by kernel_rfl
set_option maxRecDepth 100000 in
theorem ph_b4 : (seqKB .any lops.toArray [79, 80] (listAll [71, 72, 73, 74, 75, 76, 77, 78] L4) && ([79, 80].all fun i => decide (i < lops.toArray.size))) = true := by kernel_rfl
set_option maxRecDepth 100000 in
theorem ph_a5 : frontPickB .any lops.toArray kpT [81, 82, 83, 85] L5 = true := by kernel_rfl
set_option maxRecDepth 100000 in
theorem ph_b5 : (seqKB .any lops.toArray [84, 86] (listAll [81, 82, 83, 85] L5) && ([84, 86].all fun i => decide (i < lops.toArray.size))) = true := by kernel_rfl
set_option maxRecDepth 100000 in
theorem ph_a6 : frontPickB .any lops.toArray kpT [87, 88, 89, 91, 92] L6 = true := by kernel_rfl
set_option maxRecDepth 100000 in
theorem ph_b6 : (seqKB .any lops.toArray [90, 93, 94] (listAll [87, 88, 89, 91, 92] L6) && ([90, 93, 94].all fun i => decide (i < lops.toArray.size))) = true := by kernel_rfl
set_option maxRecDepth 100000 in
theorem ph_end : phB .any lops.toArray kpT [] L7 = true := by kernel_rfl
theorem ph_6 : phB .any lops.toArray kpT [([87, 88, 89, 91, 92], [90, 93, 94])] L6 = true := phB_step ph_a6 (Bool.and_eq_true_iff.1 ph_b6).1 (Bool.and_eq_true_iff.1 ph_b6).2 ph_end
theorem ph_5 : phB .any lops.toArray kpT [([81, 82, 83, 85], [84, 86]), ([87, 88, 89, 91, 92], [90, 93, 94])] L5 = true := phB_step ph_a5 (Bool.and_eq_true_iff.1 ph_b5).1 (Bool.and_eq_true_iff.1 ph_b5).2 ph_6
theorem ph_4 : phB .any lops.toArray kpT [([71, 72, 73, 74, 75, 76, 77, 78], [79, 80]), ([81, 82, 83, 85], [84, 86]), ([87, 88, 89, 91, 92], [90, 93, 94])] L4 = true := phB_step ph_a4 (Bool.and_eq_true_iff.1 ph_b4).1 (Bool.and_eq_true_iff.1 ph_b4).2 ph_5
theorem ph_3 : phB .any lops.toArray kpT [([63, 64, 65, 66, 67, 68], [69, 70]), ([71, 72, 73, 74, 75, 76, 77, 78], [79, 80]), ([81, 82, 83, 85], [84, 86]), ([87, 88, 89, 91, 92], [90, 93, 94])] L3 = true := phB_step ph_a3 (Bool.and_eq_true_iff.1 ph_b3).1 (Bool.and_eq_true_iff.1 ph_b3).2 ph_4
theorem ph_2 : phB .any lops.toArray kpT [([55, 56, 57, 58, 59, 60], [61, 62]), ([63, 64, 65, 66, 67, 68], [69, 70]), ([71, 72, 73, 74, 75, 76, 77, 78], [79, 80]), ([81, 82, 83, 85], [84, 86]), ([87, 88, 89, 91, 92], [90, 93, 94])] L2 = true := phB_step ph_a2 (Bool.and_eq_true_iff.1 ph_b2).1 (Bool.and_eq_true_iff.1 ph_b2).2 ph_3
theorem ph_1 : phB .any lops.toArray kpT [([33, 34, 35, 36, 37, 38, 39, 40, 41, 42, 43, 44, 45, 46, 47, 48, 49, 50, 51, 52], [53, 54]), ([55, 56, 57, 58, 59, 60], [61, 62]), ([63, 64, 65, 66, 67, 68], [69, 70]), ([71, 72, 73, 74, 75, 76, 77, 78], [79, 80]), ([81, 82, 83, 85], [84, 86]), ([87, 88, 89, 91, 92], [90, 93, 94])] L1 = true := phB_step ph_a1 (Bool.and_eq_true_iff.1 ph_b1).1 (Bool.and_eq_true_iff.1 ph_b1).2 ph_2
theorem ph_0 : phB .any lops.toArray kpT [([0, 1, 2, 3, 4, 5, 6, 7, 8, 9, 10, 11, 12, 13, 14, 15, 16, 17, 18, 19, 20, 21, 22, 23, 24, 25, 26, 27, 28, 29, 30], [31, 32]), ([33, 34, 35, 36, 37, 38, 39, 40, 41, 42, 43, 44, 45, 46, 47, 48, 49, 50, 51, 52], [53, 54]), ([55, 56, 57, 58, 59, 60], [61, 62]), ([63, 64, 65, 66, 67, 68], [69, 70]), ([71, 72, 73, 74, 75, 76, 77, 78], [79, 80]), ([81, 82, 83, 85], [84, 86]), ([87, 88, 89, 91, 92], [90, 93, 94])] L0 = true := phB_step ph_a0 (Bool.and_eq_true_iff.1 ph_b0).1 (Bool.and_eq_true_iff.1 ph_b0).2 ph_1
set_option maxRecDepth 100000 in
theorem ph_sel : (Region.noSelect lops.toArray && decide (phLen [([0, 1, 2, 3, 4, 5, 6, 7, 8, 9, 10, 11, 12, 13, 14, 15, 16, 17, 18, 19, 20, 21, 22, 23, 24, 25, 26, 27, 28, 29, 30], [31, 32]), ([33, 34, 35, 36, 37, 38, 39, 40, 41, 42, 43, 44, 45, 46, 47, 48, 49, 50, 51, 52], [53, 54]), ([55, 56, 57, 58, 59, 60], [61, 62]), ([63, 64, 65, 66, 67, 68], [69, 70]), ([71, 72, 73, 74, 75, 76, 77, 78], [79, 80]), ([81, 82, 83, 85], [84, 86]), ([87, 88, 89, 91, 92], [90, 93, 94])] = lops.length)) = true := by kernel_rfl
theorem ph_all : (Region.noSelect lops.toArray && (phB .any lops.toArray kpT [([0, 1, 2, 3, 4, 5, 6, 7, 8, 9, 10, 11, 12, 13, 14, 15, 16, 17, 18, 19, 20, 21, 22, 23, 24, 25, 26, 27, 28, 29, 30], [31, 32]), ([33, 34, 35, 36, 37, 38, 39, 40, 41, 42, 43, 44, 45, 46, 47, 48, 49, 50, 51, 52], [53, 54]), ([55, 56, 57, 58, 59, 60], [61, 62]), ([63, 64, 65, 66, 67, 68], [69, 70]), ([71, 72, 73, 74, 75, 76, 77, 78], [79, 80]), ([81, 82, 83, 85], [84, 86]), ([87, 88, 89, 91, 92], [90, 93, 94])] (Array.replicate lops.toArray.size false) && decide (phLen [([0, 1, 2, 3, 4, 5, 6, 7, 8, 9, 10, 11, 12, 13, 14, 15, 16, 17, 18, 19, 20, 21, 22, 23, 24, 25, 26, 27, 28, 29, 30], [31, 32]), ([33, 34, 35, 36, 37, 38, 39, 40, 41, 42, 43, 44, 45, 46, 47, 48, 49, 50, 51, 52], [53, 54]), ([55, 56, 57, 58, 59, 60], [61, 62]), ([63, 64, 65, 66, 67, 68], [69, 70]), ([71, 72, 73, 74, 75, 76, 77, 78], [79, 80]), ([81, 82, 83, 85], [84, 86]), ([87, 88, 89, 91, 92], [90, 93, 94])] = lops.length))) = true := by
  have h := Bool.and_eq_true_iff.1 ph_sel
  have h2 : phB .any lops.toArray kpT [([0, 1, 2, 3, 4, 5, 6, 7, 8, 9, 10, 11, 12, 13, 14, 15, 16, 17, 18, 19, 20, 21, 22, 23, 24, 25, 26, 27, 28, 29, 30], [31, 32]), ([33, 34, 35, 36, 37, 38, 39, 40, 41, 42, 43, 44, 45, 46, 47, 48, 49, 50, 51, 52], [53, 54]), ([55, 56, 57, 58, 59, 60], [61, 62]), ([63, 64, 65, 66, 67, 68], [69, 70]), ([71, 72, 73, 74, 75, 76, 77, 78], [79, 80]), ([81, 82, 83, 85], [84, 86]), ([87, 88, 89, 91, 92], [90, 93, 94])] (Array.replicate lops.toArray.size false) = true := ph_0
  rw [h.1, h.2, h2]
  rfl
end Go.Proofs.Ytllobkhdeahgpaa
