/- Chapter 20: what a letter is, what a number is, how many parts a kind has. -/
import Derived.Test.YtkjidklifmcpnaaIr
import Derived.Test.YtkjidklifmcpnaaA25
namespace Go.Proofs.Ytkjidklifmcpnaa.AD
open Go.Proofs
set_option linter.unusedVariables false
set_option linter.unusedSimpArgs false
set_option maxRecDepth 100000

def letterB (n : Int) : Bool := (decide (97 ≤ n) && decide (n ≤ 122)) || (decide (65 ≤ n) && decide (n ≤ 90)) || decide (n = 95)
def digitB (n : Int) : Bool := decide (48 ≤ n) && decide (n ≤ 57)

theorem refLetter_spec (n : Int) : pureF Try.prog 31 [.p (.int .u8 n)] (.p (.bool (letterB n))) := by
  refine pureF_of f31_ok fun H => ?_
  repeat' ((conv => whnf); (first | refine splitB_t rfl ?_ | refine splitB_f rfl ?_ | refine splitB_dec (fun h => ?_) (fun h => ?_) | refine splitB_eq (fun h => ?_) (fun h => ?_) | refine splitB_ne (fun h => ?_) (fun h => ?_) | refine splitB_intro (fun h => ?_) (fun h => ?_)))
  all_goals exact ⟨congrArg (fun b => AV.p (PV.bool b)) (by rw [Bool.eq_iff_iff]; simp [letterB] <;> omega), rfl⟩
theorem letter_spec (n : Int) : pureF Try.prog 27 [.p (.int .u8 n)] (.p (.bool (letterB n))) := by
  refine pureF_of f27_ok fun H => ?_
  repeat' ((conv => whnf); (first | refine splitB_t rfl ?_ | refine splitB_f rfl ?_ | refine splitB_dec (fun h => ?_) (fun h => ?_) | refine splitB_eq (fun h => ?_) (fun h => ?_) | refine splitB_ne (fun h => ?_) (fun h => ?_) | refine splitB_intro (fun h => ?_) (fun h => ?_)))
  all_goals exact ⟨congrArg (fun b => AV.p (PV.bool b)) (by rw [Bool.eq_iff_iff]; simp [letterB] <;> omega), rfl⟩
theorem refDigit_spec (n : Int) : pureF Try.prog 32 [.p (.int .u8 n)] (.p (.bool (digitB n))) := by
  refine pureF_of f32_ok fun H => ?_
  repeat' ((conv => whnf); (first | refine splitB_t rfl ?_ | refine splitB_f rfl ?_ | refine splitB_dec (fun h => ?_) (fun h => ?_) | refine splitB_eq (fun h => ?_) (fun h => ?_) | refine splitB_ne (fun h => ?_) (fun h => ?_) | refine splitB_intro (fun h => ?_) (fun h => ?_)))
  all_goals exact ⟨congrArg (fun b => AV.p (PV.bool b)) (by rw [Bool.eq_iff_iff]; simp [digitB] <;> omega), rfl⟩
theorem digit_spec (n : Int) : pureF Try.prog 30 [.p (.int .u8 n)] (.p (.bool (digitB n))) := by
  refine pureF_of f30_ok fun H => ?_
  repeat' ((conv => whnf); (first | refine splitB_t rfl ?_ | refine splitB_f rfl ?_ | refine splitB_dec (fun h => ?_) (fun h => ?_) | refine splitB_eq (fun h => ?_) (fun h => ?_) | refine splitB_ne (fun h => ?_) (fun h => ?_) | refine splitB_intro (fun h => ?_) (fun h => ?_)))
  all_goals exact ⟨congrArg (fun b => AV.p (PV.bool b)) (by rw [Bool.eq_iff_iff]; simp [digitB] <;> omega), rfl⟩

def arityI (op : Int) : Int :=
  if op = 1 ∨ op = 2 ∨ op = 5 ∨ op = 7 ∨ op = 26 ∨ op = 27 then 0
  else if op = 3 ∨ op = 6 ∨ op = 8 ∨ op = 9 ∨ op = 25 then 1
  else if 1 ≤ op ∧ op ≤ 27 then 2 else -1
end Go.Proofs.Ytkjidklifmcpnaa.AD
