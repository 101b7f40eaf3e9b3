/- Chapter 14: the law TokensBack of the code. -/
import Derived.Test.YtkjidklifmcpnaaK17
import Derived.Test.YtkjidklifmcpnaaK18
namespace Go.Proofs.Ytkjidklifmcpnaa.AD
open Go.Proofs
set_option linter.unusedVariables false
set_option linter.unusedSimpArgs false
set_option maxRecDepth 100000

theorem TokensBack_spec (s : ByteArray) (hs : (s.size : Int) ≤ 9223372036854775807) : pureF Try.prog 8 [.p (.str s)] (.p (.bool true)) := by
  refine pureF_of f8_ok fun H => ?_
  have hw := works_spec
  (conv => whnf)
  refine splitB_dec (fun h1 => ?_) (fun h1 => ?_)
  · (conv => whnf)
    refine CallVC.pureF hw rfl ?_
    (conv => whnf)
    exact ⟨rfl, rfl⟩
  have hsz : s.size ≤ 16000 := by omega
  have hq := tokens_quote s hsz
  have hql := (tokensR_tile hq).1
  have hT := Tokens_spec ⟨(quoteL s.data.toList).toArray⟩ (by omega)
  rw [hq] at hT
  (conv => whnf)
  refine CallVC.pureF (Quote_spec s (by omega)) rfl ?_
  (conv => whnf)
  refine CallVC.pureF hT rfl ?_
  (conv => whnf)
  refine splitB_f rfl ?_
  (conv => whnf)
  refine splitB_f rfl ?_
  (conv => whnf)
  refine ⟨rfl, tkP _, ⟨by decide, rfl⟩, ?_⟩
  (conv => whnf)
  refine ⟨true, eqCells_tok _ _ _ _, ?_⟩
  (conv => whnf)
  refine splitB_f rfl ?_
  (conv => whnf)
  refine CallVC.pureF (Name_spec s hs) rfl ?_
  (conv => whnf)
  cases hn : nameB s with
  | false =>
    refine splitB_t rfl ?_
    (conv => whnf)
    refine CallVC.pureF hw rfl ?_
    (conv => whnf)
    exact ⟨rfl, rfl⟩
  | true =>
    have hN := Tokens_spec s hs
    rw [tokens_name s hn (by omega)] at hN
    refine splitB_f rfl ?_
    (conv => whnf)
    refine CallVC.pureF hN rfl ?_
    (conv => whnf)
    refine splitB_t rfl ?_
    (conv => whnf)
    refine splitB_t rfl ?_
    (conv => whnf)
    refine ⟨rfl, tkP _, ⟨by decide, rfl⟩, ?_⟩
    (conv => whnf)
    refine ⟨true, eqCells_tok _ _ _ _, ?_⟩
    (conv => whnf)
    refine splitB_t rfl ?_
    (conv => whnf)
    refine CallVC.pureF hw rfl ?_
    (conv => whnf)
    exact ⟨rfl, rfl⟩

end Go.Proofs.Ytkjidklifmcpnaa.AD
