/- Chapter 14: the document's reader: all tokens. -/
import Derived.Test.YtkjidklifmcpnaaK23
namespace Go.Proofs.Ytkjidklifmcpnaa.AD
open Go.Proofs
set_option linter.unusedVariables false
set_option linter.unusedSimpArgs false
set_option maxRecDepth 100000

theorem rTokens_spec (s : ByteArray) (hsz : (s.size : Int) ≤ 9223372036854775807) : pureF Try.prog 14 [.p (.str s)] (.p (resT (tokensR s))) := by
  refine pureF_of f14_ok fun H => ?_
  (conv => whnf)
  refine splitB_dec (fun h => ?_) (fun h => ?_)
  · have hR : tokensR s = .err 0 3 := by rw [tokensR, if_pos (by omega)]
    rw [hR]
    (conv => whnf)
    exact ⟨rfl, rfl⟩
  have hs : s.size ≤ 65536 := by omega
  have hR : tokensR s = tokG (s.size + 1) (s.data.toList.drop (skipF false s.data.toList)) (skipF false s.data.toList) [] := by rw [tokensR, if_neg (by omega)]
  rw [hR]
  generalize hZ : tokG (s.size + 1) (s.data.toList.drop (skipF false s.data.toList)) (skipF false s.data.toList) [] = Z
  (conv => whnf)
  refine CallVC.pureF (rBlanks_spec s hs 0 (by omega)) rfl ?_
  rw [show 0 + skipF false (s.data.toList.drop 0) = skipF false s.data.toList by simp]
  (conv => whnf)
  intro R hR2
  have key : ∀ (f : Nat) (l : List UInt8) (q g : Nat) (acc : List Tok), l.length < f → s.data.toList.drop q = l → q ≤ s.size → acc.length ≤ 8192 → tokG f l q acc = Z →
      R [(0, .p (.str s)), (5, .view (.l 0) g 4 acc.length), (6, .p (.int .i64 q))] H [.buf g 4 (acc.map tkP)] := by
    intro f
    induction f with
    | zero => intro l q g acc h; omega
    | succ f ih =>
      intro l q g acc hf hd hq ha hz
      refine hR2 _ _ _ ?_
      cases l with
      | nil =>
        have := sz_le hd
        simp only [tokG] at hz
        subst hz
        (conv => whnf)
        refine splitB_f (decide_eq_false (by omega)) ?_
        (conv => whnf)
        exact ⟨⟨rfl, rfl⟩, .inl ⟨acc.map tkP, by simp, List.take_of_length_le (by simp), rfl, rfl⟩⟩
      | cons c t =>
        have hql := sz_lt hd
        (conv => whnf)
        refine splitB_t (decide_eq_true (by omega)) ?_
        (conv => whnf)
        refine ⟨rfl, ?_⟩
        have hlen : t.length + 1 = s.size - q := by
          have := congrArg List.length hd
          rw [List.length_drop, ← ba_size] at this
          simpa using this.symm
        simp only [tokG] at hz
        have hnx := rNext_spec s hs q c t hd
        have hml : (acc.map tkP).length = acc.length := List.length_map _
        (conv => whnf)
        refine splitB_eq (fun h8 => ?_) (fun h8 => ?_)
        · rw [if_pos (by omega)] at hz
          subst hz
          (conv => whnf)
          exact ⟨rfl, rfl⟩
        rw [if_neg (by omega)] at hz
        (conv => whnf)
        refine CallVC.pureF hnx rfl ?_
        cases hN : nextP (c :: t) with
        | err o e =>
          rw [hN] at hz
          obtain ⟨he, ho⟩ := nextP_err c t hN
          subst hz
          (conv => whnf)
          refine splitB_t (by rcases he with rfl | rfl | rfl <;> rfl) ?_
          (conv => whnf)
          exact ⟨rfl, rfl⟩
        | tok k x len =>
          rw [hN] at hz
          obtain ⟨hl1, hl2⟩ := nextP_len c t hN
          simp only [List.length_cons] at hl2
          (conv => whnf)
          refine splitB_f rfl ?_
          (conv => whnf)
          refine ⟨rfl, ?_⟩
          (conv => whnf)
          refine ⟨⟨rfl, rfl, rfl, by omega⟩, by simp only [room]; simp; omega, (acc ++ [(⟨k, x, q, q + len⟩ : Tok)]).map tkP, by rw [List.take_of_length_le (by omega)]; simp [tkP, tokP], ?_⟩
          (conv => whnf)
          have hd2 : s.data.toList.drop (q + len) = (c :: t).drop len := by rw [← List.drop_drop, hd]
          refine CallVC.pureF (rBlanks_spec s hs (q + len) (by omega)) rfl ?_
          (conv => whnf)
          have hsk := skipF_le ((c :: t).drop len) false
          rw [List.length_drop, List.length_cons] at hsk
          have q2 := ih (((c :: t).drop len).drop (skipF false ((c :: t).drop len))) (q + len + skipF false (s.data.toList.drop (q + len))) (g + 1) (acc ++ [(⟨k, x, q, q + len⟩ : Tok)])
            (by rw [List.length_drop, List.length_drop, List.length_cons]; simp only [List.length_cons] at hf; omega) (by rw [← List.drop_drop, hd2]) (by rw [hd2]; omega) (by simp; omega) (by rw [hd2]; exact hz)
          rw [List.length_append] at q2
          exact q2
  refine key _ _ _ 0 [] ?_ rfl ?_ (by simp) hZ
  · rw [List.length_drop, ← ba_size]; omega
  · have := skipF_le s.data.toList false
    rw [← ba_size] at this
    exact this

end Go.Proofs.Ytkjidklifmcpnaa.AD
