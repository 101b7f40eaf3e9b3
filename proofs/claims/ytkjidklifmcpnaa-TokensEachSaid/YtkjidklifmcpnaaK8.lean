/- Chapter 14: tokens.Tokens. -/
import Derived.Test.YtkjidklifmcpnaaK7
namespace Go.Proofs.Ytkjidklifmcpnaa.AD
open Go.Proofs
set_option linter.unusedVariables false
set_option linter.unusedSimpArgs false
set_option maxRecDepth 100000

def scO (s : ByteArray) (p : Int) : Ob := .cells [.p (.str s), .p (.int .i64 p)]
/-- What Tokens has at hand while the loop goes on. -/
def tkO (L : Nat) (r : Loop) (s : ByteArray) (p : Int) (g n : Nat) (acc : List Tok) : List Ob :=
  [.cells [.p .nils], .cells [.p (.int .i64 0)], .cells [.p (.int .i64 0)], .cells [.view (.l 5) g 4 n], scO s p, .buf g 4 (acc.map tkP), .cells [.ref (.l 4) 0], .loop L r [2, 3, 4, 5, 6] [.ref (.l 0) 0, .ref (.l 1) 0, .ref (.l 2) 0, .ref (.l 3) 0, .ref (.l 4) 0] .ready]

theorem Tokens_spec (s : ByteArray) (hsz : (s.size : Int) ≤ 9223372036854775807) : pureF Try.prog 9 [.p (.str s)] (.p (resT (tokensR s))) := by
  refine pureF_fresh (ps := [.str s]) ?_
  refine CallVC.inline f9_ok ?_
  (conv => whnf)
  refine splitB_dec (fun h => ?_) (fun h => ?_)
  · have hR : tokensR s = .err 0 3 := by rw [tokensR, if_pos (by omega)]
    rw [hR]
    (conv => whnf)
    refine .p _ (.tup _ fun c hc => ?_)
    simp only [List.mem_cons, List.mem_nil_iff, or_false] at hc
    rcases hc with rfl | rfl | rfl
    · exact .nils
    · exact .int _ _
    · exact .int _ _
  have hs : s.size ≤ 65536 := by omega
  have hR : tokensR s = tokG (s.size + 1) (s.data.toList.drop (skipF false s.data.toList)) (skipF false s.data.toList) [] := by rw [tokensR, if_neg (by omega)]
  rw [hR]
  generalize hZ : tokG (s.size + 1) (s.data.toList.drop (skipF false s.data.toList)) (skipF false s.data.toList) [] = Z
  (conv => whnf)
  refine CallVC.ghost 3 0 4 rfl rfl ?_
  refine CallVC.inline f20_ok ?_
  (conv => whnf)
  refine ⟨rfl, ?_⟩
  (conv => whnf)
  intro L r hY
  (conv => whnf)
  refine ⟨by kernel_rfl, ?_⟩
  refine CallVC.inline f33_ok ?_
  (conv => whnf)
  refine CallVC.methM' [4, 0, 1, 2, 3, 5, 6, 7] 8 (tkO L r s (0 + skipF false (s.data.toList.drop 0) : Nat) 0 0 []) (skip_spec s hs 0 (by omega)) rfl rfl rfl rfl rfl (by decide) (by decide) rfl ?_
  (conv => whnf)
  intro R hR2
  rw [show 0 + skipF false (s.data.toList.drop 0) = skipF false s.data.toList by simp]
  have key : ∀ (f : Nat) (l : List UInt8) (q g n : Nat) (acc : List Tok), n = acc.length → l.length < f → s.data.toList.drop q = l → q ≤ s.size → acc.length ≤ 8192 → tokG f l q acc = Z →
      R [(0, .p (.fn (.yield L))), (1, .ref (.l 6) 0)] [] (tkO L r s q g n acc) := by
    intro f
    induction f with
    | zero => intro l q g n acc _ h; omega
    | succ f ih =>
      intro l q g n acc hn hf hd hq ha hz
      cases l with
      | nil =>
        have := sz_le hd
        simp only [tokG] at hz
        subst hz
        refine hR2 _ _ _ ?_
        (conv => whnf)
        refine splitB_f (decide_eq_false (by omega)) ?_
        (conv => whnf)
        refine ⟨⟨rfl, rfl⟩, ?_⟩
        (conv => whnf)
        refine .tup _ _ rfl fun n c p hc hp => ?_
        match n, hc, hp with
        | 0, hc, hp => cases hc; cases hp; exact .view _ _ _ _ _ rfl (by rw [hn]; simp) (tkP_flat acc)
        | 1, hc, hp => cases hc; cases hp; exact .p _ (.int _ _)
        | 2, hc, hp => cases hc; cases hp; exact .p _ (.int _ _)
      | cons c t =>
        have hql := sz_lt hd
        have hnx := next_spec s hs q c t hd
        have hlen : t.length + 1 = s.size - q := by
          have := congrArg List.length hd
          rw [List.length_drop, ← ba_size] at this
          simpa using this.symm
        simp only [tokG] at hz
        refine hR2 _ _ _ ?_
        (conv => whnf)
        refine splitB_t (decide_eq_true (by omega)) ?_
        (conv => whnf)
        have over : acc.length = 8192 → Z = .err q 3 := fun e => by rw [if_pos e] at hz; exact hz.symm
        have lend : ∀ (os : List Ob) (p : Nat) (e : Int), LendF os (.p (.tup [.nils, .int .i64 p, .int .i64 e])) (resT (.err p e)) := fun os p e => .p _ (.tup _ fun c hc => by
          simp only [List.mem_cons, List.mem_nil_iff, or_false] at hc
          rcases hc with rfl | rfl | rfl
          · exact .nils
          · exact .int _ _
          · exact .int _ _)
        cases hN : nextP (c :: t) with
        | err o e =>
          rw [hN] at hnx hz
          obtain ⟨he, ho⟩ := nextP_err c t hN
          refine CallVC.methM' [4, 0, 1, 2, 3, 5, 6, 7] 8 (tkO L r s q g n acc) hnx rfl rfl rfl rfl rfl (by decide) (by decide) rfl ?_
          (conv => whnf)
          refine hY [zeroTok, .agg [.int .i64 (q + o : Nat), .int .i64 e]] _ _ _ ?_
          (conv => whnf)
          refine ⟨⟨rfl, rfl⟩, ?_⟩
          (conv => whnf)
          refine ⟨⟨rfl, rfl⟩, ?_⟩
          (conv => whnf)
          refine ⟨rfl, ?_⟩
          (conv => whnf)
          refine splitB_eq (fun h8 => ?_) (fun h8 => ?_)
          · rw [over (by omega)]
            repeat' ((conv => whnf); first | refine ⟨⟨rfl, rfl⟩, ?_⟩ | refine ⟨rfl, ?_⟩ | refine splitB_t rfl ?_ | refine splitB_f rfl ?_ | done)
            (conv => whnf)
            exact lend _ _ _
          · rw [if_neg (by omega)] at hz
            subst hz
            (conv => whnf)
            refine splitB_t (by rcases he with rfl | rfl | rfl <;> rfl) ?_
            repeat' ((conv => whnf); first | refine ⟨⟨rfl, rfl⟩, ?_⟩ | refine ⟨rfl, ?_⟩ | refine splitB_t rfl ?_ | refine splitB_f rfl ?_ | done)
            (conv => whnf)
            exact lend _ _ _
        | tok k x len =>
          rw [hN] at hnx hz
          obtain ⟨hl1, hl2⟩ := nextP_len c t hN
          refine CallVC.methM' [4, 0, 1, 2, 3, 5, 6, 7] 8 (tkO L r s q g n acc) hnx rfl rfl rfl rfl rfl (by decide) (by decide) rfl ?_
          (conv => whnf)
          refine hY [tokP k x q (q + len : Nat), .agg [.int .i64 0, .int .i64 0]] _ _ _ ?_
          (conv => whnf)
          refine ⟨⟨rfl, rfl⟩, ?_⟩
          (conv => whnf)
          refine ⟨⟨rfl, rfl⟩, ?_⟩
          (conv => whnf)
          refine ⟨rfl, ?_⟩
          (conv => whnf)
          refine splitB_eq (fun h8 => ?_) (fun h8 => ?_)
          · rw [over (by omega)]
            repeat' ((conv => whnf); first | refine ⟨⟨rfl, rfl⟩, ?_⟩ | refine ⟨rfl, ?_⟩ | refine splitB_t rfl ?_ | refine splitB_f rfl ?_ | done)
            (conv => whnf)
            exact lend _ _ _
          · rw [if_neg (by omega)] at hz
            simp only [List.length_cons] at hl2
            (conv => whnf)
            refine splitB_f rfl ?_
            (conv => whnf)
            refine ⟨rfl, ?_⟩
            (conv => whnf)
            refine ⟨⟨rfl, rfl, rfl, by rw [hn]; simp⟩, by simp [room]; omega, (acc ++ [(⟨k, x, q, q + len⟩ : Tok)]).map tkP, by rw [List.take_of_length_le (by rw [hn]; simp)]; simp [tkP, tokP], ?_⟩
            (conv => whnf)
            refine ⟨⟨rfl, rfl⟩, ?_⟩
            (conv => whnf)
            refine splitB_f rfl ?_
            (conv => whnf)
            have hd2 : s.data.toList.drop (q + len) = (c :: t).drop len := by rw [← List.drop_drop, hd]
            refine CallVC.methM' [4, 0, 1, 2, 3, 5, 6, 7, 8, 9, 10] 11 (tkO L r s (q + len + skipF false (s.data.toList.drop (q + len)) : Nat) (g + 1) (n + 1) (acc ++ [(⟨k, x, q, q + len⟩ : Tok)]) ++ [.cells [.p (.int .u8 k), .p (.str x), .p (.int .i64 q), .p (.int .i64 (q + len : Nat))], .cells [.p (.int .u8 k), .p (.str x), .p (.int .i64 q), .p (.int .i64 (q + len : Nat))], .cells [.p (.int .i64 0), .p (.int .i64 0)]]) (skip_spec s hs (q + len) (by omega)) rfl rfl rfl rfl rfl (by decide) (by decide) rfl ?_
            (conv => whnf)
            have hsk := skipF_le ((c :: t).drop len) false
            rw [List.length_drop, List.length_cons] at hsk
            refine ih (((c :: t).drop len).drop (skipF false ((c :: t).drop len))) (q + len + skipF false (s.data.toList.drop (q + len))) (g + 1) (n + 1) (acc ++ [(⟨k, x, q, q + len⟩ : Tok)]) (by simp [hn]) ?_ ?_ ?_ (by simp; omega) ?_
            · rw [List.length_drop, List.length_drop, List.length_cons]
              simp only [List.length_cons] at hf
              omega
            · rw [← List.drop_drop, hd2]
            · rw [hd2]; omega
            · rw [hd2]; exact hz
  refine key _ _ _ 0 0 [] rfl ?_ rfl ?_ (by simp) hZ
  · rw [List.length_drop, ← ba_size]; omega
  · have := skipF_le s.data.toList false
    rw [← ba_size] at this
    exact this

end Go.Proofs.Ytkjidklifmcpnaa.AD
