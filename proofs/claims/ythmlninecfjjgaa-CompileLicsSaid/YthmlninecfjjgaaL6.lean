/- Chapter 22: which instructions may be written; which programs. -/
import Derived.Test.YthmlninecfjjgaaL5
namespace Go.Proofs.Ythmlninecfjjgaa.AD
open Go.Proofs
set_option linter.unusedVariables false
set_option linter.unusedSimpArgs false
set_option maxRecDepth 100000

def hasA (op : Int) : Bool := decide (op = 1 ∨ op = 2 ∨ op = 3 ∨ op = 4 ∨ op = 34 ∨ op = 26 ∨ op = 27 ∨ op = 28 ∨ op = 29 ∨ op = 37)
def hasB (op : Int) : Bool := decide (op = 37)
def fitsB (n : Int) : Bool := decide (0 ≤ n) && decide (n ≤ 2147483647)
def insOk (x : Ins) : Bool := decide (1 ≤ x.op) && decide (x.op ≤ 38) && fitsB x.a && fitsB x.b && (hasA x.op || decide (x.a = 0)) && (hasB x.op || decide (x.b = 0))
def shp (op : Int) : Int := if op = 37 then 3 else if hasA op then 1 else 0

theorem opcases (o : Int) : (o = 1 ∨ o = 2 ∨ o = 3 ∨ o = 4 ∨ o = 34 ∨ o = 26 ∨ o = 27 ∨ o = 28 ∨ o = 29 ∨ o = 37) ∨ (o ≠ 1 ∧ o ≠ 2 ∧ o ≠ 3 ∧ o ≠ 4 ∧ o ≠ 34 ∧ o ≠ 26 ∧ o ≠ 27 ∧ o ≠ 28 ∧ o ≠ 29 ∧ o ≠ 37) := by omega

theorem hasA_spec (o : Int) : pureF Try.prog 79 [.p (.int .u8 o)] (.p (.bool (hasA o))) := by
  refine pureF_of f79_ok fun H => ?_
  rcases opcases o with (rfl | rfl | rfl | rfl | rfl | rfl | rfl | rfl | rfl | rfl) | ⟨n1, n2, n3, n4, n34, n26, n27, n28, n29, n37⟩
  all_goals repeat' ((conv => whnf); first | refine splitB_t rfl ?_ | refine splitB_f rfl ?_ | (refine splitB_f (beq_eq_false_iff_ne.2 ?_) ?_; (first | exact n1 | exact n2 | exact n3 | exact n4 | exact n34 | exact n26 | exact n27 | exact n28 | exact n29)))
  all_goals (try (conv => whnf))
  all_goals first
    | exact ⟨rfl, rfl⟩
    | exact ⟨congrArg (fun n => AV.p (PV.bool n)) (by rw [beq_eq_false_iff_ne.2 n37, hasA, decide_eq_false (by omega)]), rfl⟩
theorem hasB_spec (o : Int) : pureF Try.prog 80 [.p (.int .u8 o)] (.p (.bool (hasB o))) := by
  refine pureF_of f80_ok fun H => ?_
  (conv => whnf)
  exact ⟨congrArg (fun n => AV.p (PV.bool n)) (by rw [hasB, Bool.eq_iff_iff]; simp), rfl⟩
theorem of_spec (o : Int) : pureF Try.prog 74 [.p (.int .u8 o)] (.p (.int .u8 (shp o))) := by
  refine pureF_of f74_ok fun H => ?_
  rcases opcases o with (rfl | rfl | rfl | rfl | rfl | rfl | rfl | rfl | rfl | rfl) | ⟨n1, n2, n3, n4, n34, n26, n27, n28, n29, n37⟩
  all_goals repeat' ((conv => whnf); first | refine splitB_t rfl ?_ | refine splitB_f rfl ?_ | (refine splitB_f (beq_eq_false_iff_ne.2 ?_) ?_; (first | exact n1 | exact n2 | exact n3 | exact n4 | exact n34 | exact n26 | exact n27 | exact n28 | exact n29 | exact n37)))
  all_goals (try (conv => whnf))
  all_goals first
    | exact ⟨rfl, rfl⟩
    | exact ⟨congrArg (fun n => AV.p (PV.int .u8 n)) (by rw [shp, if_neg n37, hasA, decide_eq_false (by omega)]; rfl), rfl⟩
theorem fits_spec (n : Int) : pureF Try.prog 76 [.p (.int .i64 n)] (.p (.bool (fitsB n))) := by
  refine pureF_of f76_ok fun H => ?_
  (conv => whnf)
  refine splitB_dec (fun h => ?_) (fun h => ?_)
  · exact ⟨congrArg (fun n => AV.p (PV.bool n)) (by rw [fitsB, decide_eq_true (by omega : 0 ≤ n)]; rfl), rfl⟩
  · exact ⟨congrArg (fun n => AV.p (PV.bool n)) (by rw [fitsB, decide_eq_false (by omega : ¬ 0 ≤ n)]; rfl), rfl⟩

theorem instr_spec (x : Ins) : pureF Try.prog 78 [.p (insP x)] (.p (.bool (insOk x))) := by
  obtain ⟨o, a, b⟩ := x
  have hA := hasA_spec o
  have hB := hasB_spec o
  have hfa := fits_spec a
  have hfb := fits_spec b
  have hdef : insOk ⟨o, a, b⟩ = (decide (1 ≤ o) && decide (o ≤ 38) && fitsB a && fitsB b && (hasA o || decide (a = 0)) && (hasB o || decide (b = 0))) := rfl
  refine pureF_of f78_ok fun H => ?_
  generalize hasA o = va at hA hdef
  generalize hasB o = vb at hB hdef
  generalize fitsB a = fa at hfa hdef
  generalize fitsB b = fb at hfb hdef
  repeat' ((conv => whnf); first | refine CallVC.pureF hA rfl ?_ | refine CallVC.pureF hB rfl ?_ | refine CallVC.pureF hfa rfl ?_ | refine CallVC.pureF hfb rfl ?_ | refine splitB_t rfl ?_ | refine splitB_f rfl ?_ | refine splitB_dec (fun h => ?_) (fun h => ?_) | refine splitB_eq (fun h => ?_) (fun h => ?_) | refine splitB_intro (fun h => ?_) (fun h => ?_))
  all_goals (try (conv => whnf))
  all_goals refine ⟨congrArg (fun n => AV.p (PV.bool n)) ?_, rfl⟩
  all_goals rw [hdef]
  all_goals clear hA hB hfa hfb hdef
  all_goals first
    | (simp_all; done)
    | (simp_all; omega)
    | (simp_all; intros; omega)
    | (rw [Bool.eq_iff_iff]; simp_all; done)
    | (rw [Bool.eq_iff_iff]; simp_all; omega)

def rightB (n : Int) (m : Bool) : Bool := decide (n = 0) || (m && decide (0 < n) && decide (n ≤ 2147483647))
theorem right_code_spec (n : Int) (m : Bool) : pureF Try.prog 63 [.p (.int .i64 n), .p (.bool m)] (.p (.bool (rightB n m))) := by
  refine pureF_of f63_ok fun H => ?_
  have hdef : rightB n m = (decide (n = 0) || (m && decide (0 < n) && decide (n ≤ 2147483647))) := rfl
  repeat' ((conv => whnf); first | refine splitB_t rfl ?_ | refine splitB_f rfl ?_ | refine splitB_dec (fun h => ?_) (fun h => ?_) | refine splitB_eq (fun h => ?_) (fun h => ?_) | refine splitB_intro (fun h => ?_) (fun h => ?_))
  all_goals (try (conv => whnf))
  all_goals exact ⟨congrArg (fun n => AV.p (PV.bool n)) (by rw [hdef]; simp_all <;> (intros; omega)), rfl⟩

theorem shp_and1 (o : Int) : (IntKind.u8.wrap (BitVec.ofInt 8 (shp o) &&& BitVec.ofInt 8 1).toNat != 0) = hasA o := by
  rw [shp]
  split
  · rename_i h; subst h; decide
  · split
    · rename_i h; rw [h]; decide
    · rename_i h; have h : hasA o = false := by simpa using h
      rw [h]; decide
theorem shp_and2 (o : Int) : (IntKind.u8.wrap (BitVec.ofInt 8 (shp o) &&& BitVec.ofInt 8 2).toNat != 0) = hasB o := by
  rw [shp]
  split
  · rename_i h; subst h; decide
  · rename_i h0
    have hb : hasB o = false := by rw [hasB, decide_eq_false h0]
    rw [hb]
    split <;> decide

theorem wrong_spec (x : Ins) : pureF Try.prog 65 [.p (insP x)] (.p (.bool (!insOk x))) := by
  obtain ⟨o, a, b⟩ := x
  have ho := of_spec o
  have hra := right_code_spec a (IntKind.u8.wrap (BitVec.ofInt 8 (shp o) &&& BitVec.ofInt 8 1).toNat != 0)
  have hrb := right_code_spec b (IntKind.u8.wrap (BitVec.ofInt 8 (shp o) &&& BitVec.ofInt 8 2).toNat != 0)
  have hdef : insOk ⟨o, a, b⟩ = (decide (1 ≤ o) && decide (o ≤ 38) && rightB a (hasA o) && rightB b (hasB o)) := by
    simp only [insOk, rightB, fitsB]
    cases hasA o <;> cases hasB o <;> simp <;> rw [Bool.eq_iff_iff] <;> simp <;> omega
  refine pureF_of f65_ok fun H => ?_
  repeat' ((conv => whnf); first | refine CallD.pureF ho rfl ?_ | refine CallD.pureF hra rfl ?_ | refine CallD.pureF hrb rfl ?_ | refine splitB_t rfl ?_ | refine splitB_f rfl ?_ | refine splitB_dec (fun h => ?_) (fun h => ?_) | refine splitB_eq (fun h => ?_) (fun h => ?_) | refine splitB_intro (fun h => ?_) (fun h => ?_))
  all_goals (try (conv => whnf))
  all_goals simp only [shp_and1, shp_and2] at *
  all_goals first
    | exact ⟨congrArg (fun n => AV.p (PV.bool n)) (by rw [hdef]; clear hra hrb ho hdef; simp_all <;> (intros; omega)), trivial⟩
    | exact ⟨congrArg (fun n => AV.p (PV.bool n)) (by rw [hdef]; clear hra hrb ho hdef; simp_all <;> (intros; omega)), rfl⟩

end Go.Proofs.Ythmlninecfjjgaa.AD
