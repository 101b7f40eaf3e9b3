/- Chapter 14: tokens stand one behind the other. -/
import Derived.Test.YtnbkbmpjggemaaaK10
namespace Go.Proofs.Ytnbkbmpjggemaaa.AD
open Go.Proofs
set_option linter.unusedVariables false
set_option linter.unusedSimpArgs false
set_option maxRecDepth 100000

def blkP : Bool → List UInt8 → Bool
  | _, [] => true
  | b, c :: r => if c = 10 then blkP false r else if b = true ∨ c = 35 then blkP true r else if c = 9 ∨ c = 13 ∨ c = 32 then blkP false r else false

theorem blk_skip : ∀ (l : List UInt8) (b : Bool), blkP b (l.take (skipF b l)) = true
  | [], b => by simp [blkP]
  | c :: r, true => by
    have h1 := blk_skip r true
    have h2 := blk_skip r false
    simp only [skipF]
    split
    · rename_i h; simp only [List.take_succ_cons, blkP, if_pos h]; exact h2
    · rename_i h; simp only [List.take_succ_cons, blkP, if_neg h, true_or, if_true]; exact h1
  | c :: r, false => by
    have h1 := blk_skip r true
    have h2 := blk_skip r false
    simp only [skipF]
    split
    · rename_i h
      simp only [List.take_succ_cons, blkP]
      rw [if_neg (by rw [h]; decide), if_pos (.inr h)]
      exact h1
    · rename_i h
      split
      · rename_i h3
        simp only [List.take_succ_cons, blkP]
        split
        · exact h2
        · rename_i h4
          rw [if_neg (by rintro (e | e); cases e; exact h e), if_pos (by rcases h3 with h3 | h3 | h3 | h3 <;> first | exact .inr (.inr h3) | exact .inl h3 | exact .inr (.inl h3) | exact absurd h3 h4)]
          exact h2
      · simp [blkP]

theorem eqCells_tok (k : Int) (t : ByteArray) (a e : Int) : eqCells [.int .u8, .str, .int .i64, .int .i64] [.int .u8 k, .str t, .int .i64 a, .int .i64 e] [.int .u8 k, .str t, .int .i64 a, .int .i64 e] = some true := by
  simp [eqCells]

def wTok : List Tok := [⟨1, ⟨#[97, 49]⟩, 0, 2⟩, ⟨6, ⟨#[45, 62]⟩, 3, 5⟩, ⟨4, ⟨#[98]⟩, 6, 9⟩, ⟨6, ⟨#[59]⟩, 9, 10⟩]
theorem works_tok : tokensR ⟨#[97, 49, 32, 45, 62, 32, 34, 98, 34, 59, 32, 35, 32, 99]⟩ = .ok wTok := by kernel_rfl
end Go.Proofs.Ytnbkbmpjggemaaa.AD
