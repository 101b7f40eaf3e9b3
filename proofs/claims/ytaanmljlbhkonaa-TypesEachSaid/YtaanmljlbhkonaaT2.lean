/- Chapter 20: what a letter is, what a number is, how many parts a kind has. -/
import Derived.Test.YtaanmljlbhkonaaT1
namespace Go.Proofs.Ytaanmljlbhkonaa.AD
open Go.Proofs
set_option linter.unusedVariables false
set_option linter.unusedSimpArgs false
set_option maxRecDepth 100000

def letterB (n : Int) : Bool := (decide (97 ≤ n) && decide (n ≤ 122)) || (decide (65 ≤ n) && decide (n ≤ 90)) || decide (n = 95)
def digitB (n : Int) : Bool := decide (48 ≤ n) && decide (n ≤ 57)

theorem refLetter_spec (n : Int) : pureF Try.prog 57 [.p (.int .u8 n)] (.p (.bool (letterB n))) := by
  refine pureF_of f57_ok fun H => ?_
  repeat' ((conv => whnf); (first | refine splitB_t rfl ?_ | refine splitB_f rfl ?_ | refine splitB_dec (fun h => ?_) (fun h => ?_) | refine splitB_eq (fun h => ?_) (fun h => ?_) | refine splitB_ne (fun h => ?_) (fun h => ?_) | refine splitB_intro (fun h => ?_) (fun h => ?_)))
  all_goals exact ⟨congrArg (fun b => AV.p (PV.bool b)) (by rw [Bool.eq_iff_iff]; simp [letterB] <;> omega), rfl⟩
theorem letter_spec (n : Int) : pureF Try.prog 62 [.p (.int .u8 n)] (.p (.bool (letterB n))) := by
  refine pureF_of f62_ok fun H => ?_
  repeat' ((conv => whnf); (first | refine splitB_t rfl ?_ | refine splitB_f rfl ?_ | refine splitB_dec (fun h => ?_) (fun h => ?_) | refine splitB_eq (fun h => ?_) (fun h => ?_) | refine splitB_ne (fun h => ?_) (fun h => ?_) | refine splitB_intro (fun h => ?_) (fun h => ?_)))
  all_goals exact ⟨congrArg (fun b => AV.p (PV.bool b)) (by rw [Bool.eq_iff_iff]; simp [letterB] <;> omega), rfl⟩
theorem refDigit_spec (n : Int) : pureF Try.prog 58 [.p (.int .u8 n)] (.p (.bool (digitB n))) := by
  refine pureF_of f58_ok fun H => ?_
  repeat' ((conv => whnf); (first | refine splitB_t rfl ?_ | refine splitB_f rfl ?_ | refine splitB_dec (fun h => ?_) (fun h => ?_) | refine splitB_eq (fun h => ?_) (fun h => ?_) | refine splitB_ne (fun h => ?_) (fun h => ?_) | refine splitB_intro (fun h => ?_) (fun h => ?_)))
  all_goals exact ⟨congrArg (fun b => AV.p (PV.bool b)) (by rw [Bool.eq_iff_iff]; simp [digitB] <;> omega), rfl⟩
theorem digit_spec (n : Int) : pureF Try.prog 65 [.p (.int .u8 n)] (.p (.bool (digitB n))) := by
  refine pureF_of f65_ok fun H => ?_
  repeat' ((conv => whnf); (first | refine splitB_t rfl ?_ | refine splitB_f rfl ?_ | refine splitB_dec (fun h => ?_) (fun h => ?_) | refine splitB_eq (fun h => ?_) (fun h => ?_) | refine splitB_ne (fun h => ?_) (fun h => ?_) | refine splitB_intro (fun h => ?_) (fun h => ?_)))
  all_goals exact ⟨congrArg (fun b => AV.p (PV.bool b)) (by rw [Bool.eq_iff_iff]; simp [digitB] <;> omega), rfl⟩

def arityI (op : Int) : Int :=
  if op = 1 ∨ op = 2 ∨ op = 5 ∨ op = 7 ∨ op = 26 ∨ op = 27 then 0
  else if op = 3 ∨ op = 6 ∨ op = 8 ∨ op = 9 ∨ op = 25 then 1
  else if 1 ≤ op ∧ op ≤ 27 then 2 else -1
theorem Parts_spec (n : Int) : pureF Try.prog 35 [.p (.int .u8 n)] (.p (.int .i64 (arityI n))) := by
  refine pureF_of f35_ok fun H => ?_
  repeat' ((conv => whnf); (first | refine splitB_t rfl ?_ | refine splitB_f rfl ?_ | refine splitB_dec (fun h => ?_) (fun h => ?_) | refine splitB_eq (fun h => ?_) (fun h => ?_) | refine splitB_ne (fun h => ?_) (fun h => ?_) | refine splitB_intro (fun h => ?_) (fun h => ?_)))
  all_goals exact ⟨by simp_all [arityI] <;> omega, rfl⟩
theorem arity_spec (n : Int) (h0 : 0 ≤ n) : pureF Try.prog 43 [.p (.int .u8 n)] (.p (.int .i64 (arityI n))) := by
  refine pureF_of f43_ok fun H => ?_
  repeat' ((conv => whnf); (first | refine splitB_t rfl ?_ | refine splitB_f rfl ?_ | refine splitB_dec (fun h => ?_) (fun h => ?_) | refine splitB_eq (fun h => ?_) (fun h => ?_) | refine splitB_ne (fun h => ?_) (fun h => ?_) | refine splitB_intro (fun h => ?_) (fun h => ?_)))
  all_goals exact ⟨by simp_all [arityI] <;> omega, rfl⟩
end Go.Proofs.Ytaanmljlbhkonaa.AD
