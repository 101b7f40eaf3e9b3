/- Chapter 20: the types of one part and of two, in the program's grids and in the document's rows. -/
import Derived.Test.YtaanmljlbhkonaaT2
namespace Go.Proofs.Ytaanmljlbhkonaa.AD
open Go.Proofs
set_option linter.unusedVariables false
set_option linter.unusedSimpArgs false
set_option maxRecDepth 100000

def oneT (op a : Int) : Int :=
  if op = 3 ∧ a = 1 then 1 else if op = 6 ∧ a = 1 then 2 else if op = 8 ∧ a = 1 then 3 else if op = 9 ∧ (a = 2 ∨ a = 3) then a else if op = 25 ∧ a = 4 then 4 else 0
def twoT (op a b : Int) : Int :=
  if op = 4 then (if a = 1 ∧ b = 1 then 1 else 0)
  else if 10 ≤ op ∧ op ≤ 13 then (if a = 2 ∧ b = 2 then 2 else if (a = 2 ∨ a = 3) ∧ (b = 2 ∨ b = 3) then 3 else 0)
  else if op = 14 then (if a = 2 ∧ b = 2 then 2 else 0)
  else if op = 15 then (if (a = 2 ∨ a = 3) ∧ b = 2 then a else 0)
  else if 16 ≤ op ∧ op ≤ 21 then (if (a = 1 ∧ b = 1) ∨ ((a = 2 ∨ a = 3) ∧ (b = 2 ∨ b = 3)) then 4 else 0)
  else if op = 22 then (if a = 1 ∧ b = 1 then 4 else 0)
  else if op = 23 ∨ op = 24 then (if a = 4 ∧ b = 4 then 4 else 0)
  else 0

theorem number_spec (n : Int) : pureF Try.prog 59 [.p (.int .u8 n)] (.p (.bool (decide (n = 2 ∨ n = 3)))) := by
  refine pureF_of f59_ok fun H => ?_
  repeat' ((conv => whnf); (first | refine splitB_t rfl ?_ | refine splitB_f rfl ?_ | refine splitB_dec (fun h => ?_) (fun h => ?_) | refine splitB_eq (fun h => ?_) (fun h => ?_) | refine splitB_ne (fun h => ?_) (fun h => ?_) | refine splitB_intro (fun h => ?_) (fun h => ?_)))
  all_goals exact ⟨congrArg (fun b => AV.p (PV.bool b)) (by rw [Bool.eq_iff_iff]; simp <;> omega), rfl⟩

theorem arity1 {op : Int} (h : arityI op = 1) : op = 3 ∨ op = 6 ∨ op = 8 ∨ op = 9 ∨ op = 25 := by
  simp only [arityI] at h
  split at h
  · omega
  · split at h
    · assumption
    · split at h <;> omega
theorem arity2 {op : Int} (h : arityI op = 2) : op = 4 ∨ op = 10 ∨ op = 11 ∨ op = 12 ∨ op = 13 ∨ op = 14 ∨ op = 15 ∨ op = 16 ∨ op = 17 ∨ op = 18 ∨ op = 19 ∨ op = 20 ∨ op = 21 ∨ op = 22 ∨ op = 23 ∨ op = 24 := by
  simp only [arityI] at h
  split at h
  · omega
  · split at h
    · omega
    · split at h <;> omega

theorem one_spec (op a : Int) (h : arityI op = 1) : pureF Try.prog 39 [.p (.int .u8 op), .p (.int .u8 a)] (.p (.int .u8 (oneT op a))) := by
  refine pureF_of f39_ok fun H => ?_
  rcases arity1 h with rfl | rfl | rfl | rfl | rfl
  all_goals
    repeat' ((conv => whnf); first | refine CallVC.pureF (number_spec _) rfl ?_ | (first | refine splitB_t rfl ?_ | refine splitB_f rfl ?_ | refine splitB_dec (fun h => ?_) (fun h => ?_) | refine splitB_eq (fun h => ?_) (fun h => ?_) | refine splitB_ne (fun h => ?_) (fun h => ?_) | refine splitB_intro (fun h => ?_) (fun h => ?_)))
  all_goals exact ⟨congrArg (fun b => AV.p (PV.int .u8 b)) (by simp [oneT] <;> (repeat' split) <;> omega), rfl⟩

theorem two_spec (op a b : Int) (h : arityI op = 2) : pureF Try.prog 40 [.p (.int .u8 op), .p (.int .u8 a), .p (.int .u8 b)] (.p (.int .u8 (twoT op a b))) := by
  refine pureF_of f40_ok fun H => ?_
  rcases arity2 h with rfl | rfl | rfl | rfl | rfl | rfl | rfl | rfl | rfl | rfl | rfl | rfl | rfl | rfl | rfl | rfl
  all_goals
    repeat' ((conv => whnf); first | refine CallVC.pureF (number_spec _) rfl ?_ | (first | refine splitB_t rfl ?_ | refine splitB_f rfl ?_ | refine splitB_dec (fun h => ?_) (fun h => ?_) | refine splitB_eq (fun h => ?_) (fun h => ?_) | refine splitB_ne (fun h => ?_) (fun h => ?_) | refine splitB_intro (fun h => ?_) (fun h => ?_)))
  all_goals exact ⟨congrArg (fun b => AV.p (PV.int .u8 b)) (by simp [twoT] <;> (repeat' split) <;> omega), rfl⟩

def rowOf (op : Int) : List PV := [.int .u8 (oneT op 0), .int .u8 (oneT op 1), .int .u8 (oneT op 2), .int .u8 (oneT op 3), .int .u8 (oneT op 4)]
def rowTwo (op a : Int) : List PV := [.int .u8 (twoT op a 0), .int .u8 (twoT op a 1), .int .u8 (twoT op a 2), .int .u8 (twoT op a 3), .int .u8 (twoT op a 4)]
def gridOf (op : Int) : List PV := rowTwo op 0 ++ rowTwo op 1 ++ rowTwo op 2 ++ rowTwo op 3 ++ rowTwo op 4

theorem single_spec (op : Int) (h : arityI op = 1) : pureF Try.prog 41 [.p (.int .u8 op)] (.p (.agg (rowOf op))) := by
  refine pureF_of f41_ok fun H => ?_
  rcases arity1 h with rfl | rfl | rfl | rfl | rfl
  all_goals
    repeat' ((conv => whnf); first | exact ⟨rfl, rfl⟩ | refine splitB_t rfl ?_ | refine splitB_f rfl ?_ | refine ⟨⟨by omega, by omega⟩, ?_⟩)

theorem pair111 : pureF Try.prog 60 [.p (.int .u8 1), .p (.int .u8 1), .p (.int .u8 1)] (.p (.agg (gridOf 4))) := by
  refine pureF_of f60_ok fun H => ?_
  repeat' ((conv => whnf); first | exact ⟨rfl, rfl⟩ | refine ⟨⟨by omega, by omega⟩, ?_⟩)
theorem pair222 : pureF Try.prog 60 [.p (.int .u8 2), .p (.int .u8 2), .p (.int .u8 2)] (.p (.agg (gridOf 14))) := by
  refine pureF_of f60_ok fun H => ?_
  repeat' ((conv => whnf); first | exact ⟨rfl, rfl⟩ | refine ⟨⟨by omega, by omega⟩, ?_⟩)
theorem pair114 : pureF Try.prog 60 [.p (.int .u8 1), .p (.int .u8 1), .p (.int .u8 4)] (.p (.agg (gridOf 22))) := by
  refine pureF_of f60_ok fun H => ?_
  repeat' ((conv => whnf); first | exact ⟨rfl, rfl⟩ | refine ⟨⟨by omega, by omega⟩, ?_⟩)
theorem pair444 : pureF Try.prog 60 [.p (.int .u8 4), .p (.int .u8 4), .p (.int .u8 4)] (.p (.agg (gridOf 23))) := by
  refine pureF_of f60_ok fun H => ?_
  repeat' ((conv => whnf); first | exact ⟨rfl, rfl⟩ | refine ⟨⟨by omega, by omega⟩, ?_⟩)
theorem numbers_spec : pureF Try.prog 61 [] (.p (.agg (gridOf 10))) := by
  refine pureF_of f61_ok fun H => ?_
  repeat' ((conv => whnf); first | exact ⟨rfl, rfl⟩ | refine ⟨⟨by omega, by omega⟩, ?_⟩)

theorem of_spec (op : Int) (h : arityI op = 2) : pureF Try.prog 42 [.p (.int .u8 op)] (.p (.agg (gridOf op))) := by
  refine pureF_of f42_ok fun H => ?_
  rcases arity2 h with rfl | rfl | rfl | rfl | rfl | rfl | rfl | rfl | rfl | rfl | rfl | rfl | rfl | rfl | rfl | rfl
  all_goals
    repeat' ((conv => whnf); first | exact ⟨rfl, rfl⟩ | refine splitB_t rfl ?_ | refine splitB_f rfl ?_ | refine ⟨⟨by omega, by omega⟩, ?_⟩ | refine CallVC.pureF pair111 rfl ?_ | refine CallVC.pureF pair222 rfl ?_ | refine CallVC.pureF pair114 rfl ?_ | refine CallVC.pureF pair444 rfl ?_ | refine CallVC.pureF numbers_spec rfl ?_)
  all_goals
    (conv => whnf)
    intro R hR
    refine hR _ _ _ ?_
    repeat' ((conv => whnf); first | refine splitB_t rfl ?_ | refine splitB_f rfl ?_ | refine ⟨⟨by decide, by decide⟩, ?_⟩ | refine ⟨by decide, ?_⟩ | refine ⟨_, rfl, ?_⟩ | exact ⟨rfl, rfl⟩ | (intro R2 hR2; refine hR2 _ _ _ ?_) | refine hR2 _ _ _ ?_ | refine hR _ _ _ ?_)

end Go.Proofs.Ytaanmljlbhkonaa.AD
