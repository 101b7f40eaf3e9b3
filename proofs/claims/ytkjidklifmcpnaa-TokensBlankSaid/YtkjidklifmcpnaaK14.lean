/- Chapter 14: the law TokensJoin of the code. -/
import Derived.Test.YtkjidklifmcpnaaK13
namespace Go.Proofs.Ytkjidklifmcpnaa.AD
open Go.Proofs
set_option linter.unusedVariables false
set_option linter.unusedSimpArgs false
set_option maxRecDepth 100000

theorem Same_spec (l : List Tok) (hl : l.length ≤ 65536) : pureF Try.prog 13 [.p (.list 4 (l.map tkP)), .p (.list 4 (l.map tkP))] (.p (.bool true)) := by
  refine pureF_of f13_ok fun H => ?_
  have hm : (l.map tkP).length = l.length := by simp
  (conv => whnf)
  refine splitB_f (bne_eq_false_iff_eq.2 rfl) ?_
  (conv => whnf)
  intro R hR
  have key : ∀ (rest : List Tok) (i : Nat), l.drop i = rest → R [(0, .p (.list 4 (l.map tkP))), (1, .p (.list 4 (l.map tkP))), (5, .p (.int .i64 i))] H [] := by
    intro rest
    induction rest with
    | nil =>
      intro i hd
      have hi := drop_nil hd
      refine hR _ _ _ ?_
      (conv => whnf)
      refine splitB_f (decide_eq_false (by omega)) ?_
      (conv => whnf)
      exact ⟨rfl, rfl⟩
    | cons x r ih =>
      intro i hd
      obtain ⟨hg, hd', hil⟩ := drop_cons hd
      refine hR _ _ _ ?_
      (conv => whnf)
      refine splitB_t (decide_eq_true (by omega)) ?_
      (conv => whnf)
      refine ⟨rfl, tkP x, ⟨by omega, by rw [Int.toNat_natCast, List.getElem?_map, hg]; rfl⟩, ?_⟩
      (conv => whnf)
      refine ⟨rfl, tkP x, ⟨by omega, by rw [Int.toNat_natCast, List.getElem?_map, hg]; rfl⟩, ?_⟩
      (conv => whnf)
      refine ⟨true, eqCells_tok _ _ _ _, ?_⟩
      (conv => whnf)
      refine splitB_f rfl ?_
      (conv => whnf)
      rw [IntWalk.i64_in _ (by omega)]
      exact ih (i + 1) hd'
  exact key l 0 rfl

theorem TokensJoin_spec (a b : ByteArray) (ha : (a.size : Int) ≤ 9223372036854775807) (hb : (b.size : Int) ≤ 9223372036854775807) : pureF Try.prog 5 [.p (.str a), .p (.str b)] (.p (.bool true)) := by
  refine pureF_of f5_ok fun H => ?_
  have hA := Tokens_spec a ha
  have hB := Tokens_spec b hb
  have hw := works_spec
  have hla := ba_size a
  have hlb := ba_size b
  cases hRa : tokensR a with
  | err p e =>
    rw [hRa] at hA
    obtain ⟨he, hp⟩ := tokensR_err hRa
    (conv => whnf)
    refine CallVC.pureF hA rfl ?_
    (conv => whnf)
    refine CallVC.pureF hB rfl ?_
    cases hRb : tokensR b with
    | err p' e' =>
      (conv => whnf)
      refine splitB_t (by rcases he with rfl | rfl | rfl | rfl <;> rfl) ?_
      repeat' ((conv => whnf); first | refine splitB_t rfl ?_ | refine splitB_f rfl ?_ | done)
      (conv => whnf)
      refine CallVC.pureF hw rfl ?_
      (conv => whnf)
      exact ⟨rfl, rfl⟩
    | ok m =>
      (conv => whnf)
      refine splitB_t (by rcases he with rfl | rfl | rfl | rfl <;> rfl) ?_
      repeat' ((conv => whnf); first | refine splitB_t rfl ?_ | refine splitB_f rfl ?_ | done)
      (conv => whnf)
      refine CallVC.pureF hw rfl ?_
      (conv => whnf)
      exact ⟨rfl, rfl⟩
  | ok l =>
    rw [hRa] at hA
    have hll := tokensR_len hRa
    have hml : (l.map tkP).length = l.length := by simp
    have hsa := (tokensR_tile hRa).1
    cases hRb : tokensR b with
    | err p e =>
      rw [hRb] at hB
      obtain ⟨he, hp⟩ := tokensR_err hRb
      (conv => whnf)
      refine CallVC.pureF hA rfl ?_
      (conv => whnf)
      refine CallVC.pureF hB rfl ?_
      (conv => whnf)
      refine splitB_f rfl ?_
      (conv => whnf)
      refine splitB_t (by rcases he with rfl | rfl | rfl | rfl <;> rfl) ?_
      repeat' ((conv => whnf); first | refine splitB_t rfl ?_ | refine splitB_f rfl ?_ | done)
      (conv => whnf)
      refine CallVC.pureF hw rfl ?_
      (conv => whnf)
      exact ⟨rfl, rfl⟩
    | ok m =>
      rw [hRb] at hB
      have hlm := tokensR_len hRb
      have hmm : (m.map tkP).length = m.length := by simp
      have hsb := (tokensR_tile hRb).1
      (conv => whnf)
      refine CallVC.pureF hA rfl ?_
      (conv => whnf)
      refine CallVC.pureF hB rfl ?_
      (conv => whnf)
      refine splitB_f rfl ?_
      (conv => whnf)
      refine splitB_f rfl ?_
      (conv => whnf)
      refine splitB_dec (fun h1 => ?_) (fun h1 => ?_)
      · repeat' ((conv => whnf); first | refine splitB_t rfl ?_ | refine splitB_f rfl ?_ | done)
        (conv => whnf)
        refine CallVC.pureF hw rfl ?_
        (conv => whnf)
        exact ⟨rfl, rfl⟩
      (conv => whnf)
      refine splitB_dec (fun h2 => ?_) (fun h2 => ?_)
      · repeat' ((conv => whnf); first | refine splitB_t rfl ?_ | refine splitB_f rfl ?_ | done)
        (conv => whnf)
        refine CallVC.pureF hw rfl ?_
        (conv => whnf)
        exact ⟨rfl, rfl⟩
      (conv => whnf)
      refine splitB_dec (fun h3 => ?_) (fun h3 => ?_)
      · repeat' ((conv => whnf); first | refine splitB_t rfl ?_ | refine splitB_f rfl ?_ | done)
        (conv => whnf)
        refine CallVC.pureF hw rfl ?_
        (conv => whnf)
        exact ⟨rfl, rfl⟩
      (conv => whnf)
      refine splitB_dec (fun h4 => ?_) (fun h4 => ?_)
      · repeat' ((conv => whnf); first | refine splitB_t rfl ?_ | refine splitB_f rfl ?_ | done)
        (conv => whnf)
        refine CallVC.pureF hw rfl ?_
        (conv => whnf)
        exact ⟨rfl, rfl⟩
      (conv => whnf)
      refine ⟨by rw [show ByteArray.size ⟨#[10]⟩ = 1 from rfl]; omega, ?_⟩
      (conv => whnf)
      have hap : (a ++ (⟨#[10]⟩ : ByteArray)).size = a.size + 1 := ByteArray.size_append
      refine ⟨by rw [hap]; omega, ?_⟩
      (conv => whnf)
      have hJ : tokensR (a ++ (⟨#[10]⟩ : ByteArray) ++ b) = .ok (l ++ m.map (shT (a.size + 1))) := tokens_join hRa hRb (by omega) (by omega) (by omega) (by omega) _ (by simp [ByteArray.data_append])
      have hC := Tokens_spec (a ++ (⟨#[10]⟩ : ByteArray) ++ b) (by rw [ByteArray.size_append, hap]; omega)
      rw [hJ] at hC
      refine CallVC.pureF hC rfl ?_
      (conv => whnf)
      refine splitB_f rfl ?_
      (conv => whnf)
      refine splitB_f rfl ?_
      have hln : ((l ++ m.map (shT (a.size + 1))).map tkP).length = l.length + m.length := by simp
      (conv => whnf)
      rw [hln, hml, hmm, IntWalk.i64_in ((l.length : Int) + (m.length : Int)) (by omega)]
      refine splitB_f (bne_eq_false_iff_eq.2 (by omega)) ?_
      (conv => whnf)
      intro R hR
      have key : ∀ (rest : List Tok) (i : Nat), m.drop i = rest → R [(0, .p (.str a)), (5, .p (.list 4 (l.map tkP))), (8, .p (.list 4 (m.map tkP))), (11, .p (.list 4 ((l ++ m.map (shT (a.size + 1))).map tkP))), (14, .p (.int .i64 i))] H [] := by
        intro rest
        induction rest with
        | nil =>
          intro i hd
          have hi := drop_nil hd
          refine hR _ _ _ ?_
          (conv => whnf)
          refine splitB_f (decide_eq_false (by omega)) ?_
          (conv => whnf)
          refine ⟨rfl, ?_⟩
          (conv => whnf)
          refine ⟨by rw [hml, hln]; omega, ?_⟩
          (conv => whnf)
          have htk : List.take ((List.map tkP l).length : Int).toNat (List.map tkP (l ++ List.map (shT (a.size + 1)) m)) = l.map tkP := by
            rw [Int.toNat_natCast, List.map_append, List.take_left]
          rw [htk]
          refine CallVC.pureF (Same_spec l (by omega)) rfl ?_
          (conv => whnf)
          refine splitB_t rfl ?_
          (conv => whnf)
          refine CallVC.pureF hw rfl ?_
          (conv => whnf)
          exact ⟨rfl, rfl⟩
        | cons x r ih =>
          intro i hd
          obtain ⟨hg, hd', hil⟩ := drop_cons hd
          refine hR _ _ _ ?_
          (conv => whnf)
          refine splitB_t (decide_eq_true (by omega)) ?_
          (conv => whnf)
          refine ⟨rfl, tkP x, ⟨by omega, by rw [Int.toNat_natCast, List.getElem?_map, hg]; rfl⟩, ?_⟩
          (conv => whnf)
          have hidx : (IntKind.i64.wrap ((List.map tkP l).length + (i : Int))).toNat = l.length + i ∧ 0 ≤ IntKind.i64.wrap ((List.map tkP l).length + (i : Int)) := by
            rw [IntWalk.i64_in _ (by omega)]; omega
          refine ⟨rfl, tkP (shT (a.size + 1) x), ⟨hidx.2, by rw [hidx.1, List.getElem?_map, List.getElem?_append_right (by omega), Nat.add_sub_cancel_left, List.getElem?_map, hg]; rfl⟩, ?_⟩
          (conv => whnf)
          obtain ⟨⟨_, _, _, _, hxa, hxe⟩, _⟩ := toks_alone _ _ _ _ (tokS_of hRb) (by rw [Nat.zero_add]) x (List.mem_of_getElem? hg)
          refine ⟨true, ?_, ?_⟩
          · have w1 : IntKind.i64.wrap (IntKind.i64.wrap ((x.a : Int) + (a.size : Int)) + 1) = ((x.a + (a.size + 1) : Nat) : Int) := by
              rw [IntWalk.i64_in ((x.a : Int) + (a.size : Int)) (by omega), IntWalk.i64_in _ (by omega)]; omega
            have w2 : IntKind.i64.wrap (IntKind.i64.wrap ((x.e : Int) + (a.size : Int)) + 1) = ((x.e + (a.size + 1) : Nat) : Int) := by
              rw [IntWalk.i64_in ((x.e : Int) + (a.size : Int)) (by omega), IntWalk.i64_in _ (by omega)]; omega
            rw [w1, w2]
            exact eqCells_tok _ _ _ _
          (conv => whnf)
          refine splitB_f rfl ?_
          (conv => whnf)
          rw [IntWalk.i64_in _ (by omega)]
          exact ih (i + 1) hd'
      exact key m 0 rfl

end Go.Proofs.Ytkjidklifmcpnaa.AD
