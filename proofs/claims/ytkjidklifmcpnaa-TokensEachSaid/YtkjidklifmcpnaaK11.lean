/- Chapter 14: tokens stand one behind the other. -/
import Derived.Test.YtkjidklifmcpnaaK10
namespace Go.Proofs.Ytkjidklifmcpnaa.AD
open Go.Proofs
set_option linter.unusedVariables false
set_option linter.unusedSimpArgs false
set_option maxRecDepth 100000

def blkP : Bool → List UInt8 → Bool
  | _, [] => true
  | b, c :: r => if c = 10 then blkP false r else if b = true ∨ c = 35 then blkP true r else if c = 9 ∨ c = 13 ∨ c = 32 then blkP false r else false

theorem blk_skip : ∀ (l : List UInt8) (b : Bool), blkP b (l.take (skipF b l)) = true
  | [], b => by simp [blkP]
  | c :: r, true => by
    have h1 := blk_skip r true
    have h2 := blk_skip r false
    simp only [skipF]
    split
    · rename_i h; simp only [List.take_succ_cons, blkP, if_pos h]; exact h2
    · rename_i h; simp only [List.take_succ_cons, blkP, if_neg h, true_or, if_true]; exact h1
  | c :: r, false => by
    have h1 := blk_skip r true
    have h2 := blk_skip r false
    simp only [skipF]
    split
    · rename_i h
      simp only [List.take_succ_cons, blkP]
      rw [if_neg (by rw [h]; decide), if_pos (.inr h)]
      exact h1
    · rename_i h
      split
      · rename_i h3
        simp only [List.take_succ_cons, blkP]
        split
        · exact h2
        · rename_i h4
          rw [if_neg (by rintro (e | e); cases e; exact h e), if_pos (by rcases h3 with h3 | h3 | h3 | h3 <;> first | exact .inr (.inr h3) | exact .inl h3 | exact .inr (.inl h3) | exact absurd h3 h4)]
          exact h2
      · simp [blkP]

theorem blank_spec (s : ByteArray) (hs : (s.size : Int) ≤ 9223372036854775807) : pureF Try.prog 11 [.p (.str s)] (.p (.bool (blkP false s.data.toList))) := by
  refine pureF_of f11_ok fun H => ?_
  (conv => whnf)
  intro R hR
  have key : ∀ (rest : List UInt8) (i : Nat) (b : Bool), s.data.toList.drop i = rest → blkP b rest = blkP false s.data.toList → R [(0, .p (.str s)), (3, .p (.bool b)), (4, .p (.int .i64 i))] H [] := by
    intro rest
    induction rest with
    | nil =>
      intro i b hd hq
      have hl := sz_le hd
      refine hR _ _ _ ?_
      (conv => whnf)
      refine splitB_f (decide_eq_false (by omega)) ?_
      exact ⟨by rw [← hq, blkP], rfl⟩
    | cons c r ih =>
      intro i b hd hq
      obtain ⟨hg, hd', _⟩ := drop_cons hd
      have hl := sz_lt hd
      refine hR _ _ _ ?_
      (conv => whnf)
      refine splitB_t (decide_eq_true (by omega)) ?_
      (conv => whnf)
      refine ⟨c, ⟨by omega, hg⟩, ?_⟩
      (conv => whnf)
      simp only [blkP] at hq
      have goon : ∀ b', blkP b' r = blkP false s.data.toList → R [(0, .p (.str s)), (3, .p (.bool b')), (4, .p (.int .i64 ((i : Int) + 1)))] H [] := fun b' h => ih (i + 1) b' hd' h
      refine splitB_eq (fun h35 => ?_) (fun h35 => ?_)
      · have hc : c = 35 := u8_of 35 h35 rfl
        rw [if_neg (by rw [hc]; decide), if_pos (.inr hc)] at hq
        (conv => whnf)
        refine splitB_f (beq_eq_false_iff_ne.2 (by omega)) ?_
        (conv => whnf)
        refine splitB_f rfl ?_
        repeat' ((conv => whnf); first | refine splitB_t rfl ?_ | refine splitB_f rfl ?_ | done)
        (conv => whnf)
        rw [IntWalk.i64_in _ (by omega)]
        exact goon true hq
      have n35 : c ≠ 35 := u8_ne 35 h35 rfl
      (conv => whnf)
      refine splitB_eq (fun h10 => ?_) (fun h10 => ?_)
      · have hc : c = 10 := u8_of 10 h10 rfl
        rw [if_pos hc] at hq
        (conv => whnf)
        refine splitB_t rfl ?_
        (conv => whnf)
        refine splitB_t (by rw [h10]; rfl) ?_
        (conv => whnf)
        refine splitB_f (by rw [h10]; rfl) ?_
        repeat' ((conv => whnf); first | refine splitB_t rfl ?_ | refine splitB_f rfl ?_ | done)
        (conv => whnf)
        rw [IntWalk.i64_in _ (by omega)]
        exact goon false hq
      have n10 : c ≠ 10 := u8_ne 10 h10 rfl
      rw [if_neg n10] at hq
      cases b with
      | true =>
        rw [if_pos (.inl rfl)] at hq
        (conv => whnf)
        refine splitB_f rfl ?_
        repeat' ((conv => whnf); first | refine splitB_t rfl ?_ | refine splitB_f rfl ?_ | done)
        (conv => whnf)
        rw [IntWalk.i64_in _ (by omega)]
        exact goon true hq
      | false =>
        rw [if_neg (by rintro (e | e); cases e; exact n35 e)] at hq
        (conv => whnf)
        refine splitB_t rfl ?_
        (conv => whnf)
        refine splitB_ne (fun h9 => ?_) (fun h9 => ?_)
        rotate_left
        · have hc : c = 9 := u8_of 9 h9 rfl
          rw [if_pos (.inl hc)] at hq
          repeat' ((conv => whnf); first | refine splitB_t rfl ?_ | refine splitB_f rfl ?_ | done)
          (conv => whnf)
          rw [IntWalk.i64_in _ (by omega)]
          exact goon false hq
        have n9 : c ≠ 9 := u8_ne 9 h9 rfl
        (conv => whnf)
        refine splitB_t (bne_iff_ne.2 h10) ?_
        (conv => whnf)
        refine splitB_ne (fun h13 => ?_) (fun h13 => ?_)
        rotate_left
        · have hc : c = 13 := u8_of 13 h13 rfl
          rw [if_pos (.inr (.inl hc))] at hq
          repeat' ((conv => whnf); first | refine splitB_t rfl ?_ | refine splitB_f rfl ?_ | done)
          (conv => whnf)
          rw [IntWalk.i64_in _ (by omega)]
          exact goon false hq
        have n13 : c ≠ 13 := u8_ne 13 h13 rfl
        (conv => whnf)
        refine splitB_ne (fun h32 => ?_) (fun h32 => ?_)
        rotate_left
        · have hc : c = 32 := u8_of 32 h32 rfl
          rw [if_pos (.inr (.inr hc))] at hq
          repeat' ((conv => whnf); first | refine splitB_t rfl ?_ | refine splitB_f rfl ?_ | done)
          (conv => whnf)
          rw [IntWalk.i64_in _ (by omega)]
          exact goon false hq
        have n32 : c ≠ 32 := u8_ne 32 h32 rfl
        rw [if_neg (by rintro (e | e | e); exact n9 e; exact n13 e; exact n32 e)] at hq
        repeat' ((conv => whnf); first | refine splitB_t rfl ?_ | refine splitB_f rfl ?_ | done)
        (conv => whnf)
        exact ⟨by rw [← hq], rfl⟩
  exact key _ 0 false rfl rfl

theorem eqCells_tok (k : Int) (t : ByteArray) (a e : Int) : eqCells [.int .u8, .str, .int .i64, .int .i64] [.int .u8 k, .str t, .int .i64 a, .int .i64 e] [.int .u8 k, .str t, .int .i64 a, .int .i64 e] = some true := by
  simp [eqCells]

def wTok : List Tok := [⟨1, ⟨#[97, 49]⟩, 0, 2⟩, ⟨6, ⟨#[45, 62]⟩, 3, 5⟩, ⟨4, ⟨#[98]⟩, 6, 9⟩, ⟨6, ⟨#[59]⟩, 9, 10⟩]
theorem works_tok : tokensR ⟨#[97, 49, 32, 45, 62, 32, 34, 98, 34, 59, 32, 35, 32, 99]⟩ = .ok wTok := by kernel_rfl
theorem works_spec : pureF Try.prog 10 [] (.p (.bool true)) := by
  refine pureF_of f10_ok fun H => ?_
  have h := Tokens_spec ⟨#[97, 49, 32, 45, 62, 32, 34, 98, 34, 59, 32, 35, 32, 99]⟩ (by decide)
  rw [works_tok] at h
  (conv => whnf)
  refine CallVC.pureF h rfl ?_
  repeat' ((conv => whnf); first | refine splitB_t rfl ?_ | refine splitB_f rfl ?_ | refine ⟨rfl, _, ⟨by decide, rfl⟩, ?_⟩ | refine ⟨true, eqCells_tok _ _ _ _, ?_⟩ | done)
  (conv => whnf)
  exact ⟨congrArg (fun b => AV.p (PV.bool b)) (beq_self_eq_true _), rfl⟩

end Go.Proofs.Ytkjidklifmcpnaa.AD
