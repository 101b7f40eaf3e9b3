/- Chapter 14: the law TokensTexts of the code. -/
import Derived.Test.YtkjidklifmcpnaaK16
namespace Go.Proofs.Ytkjidklifmcpnaa.AD
open Go.Proofs
set_option linter.unusedVariables false
set_option linter.unusedSimpArgs false
set_option maxRecDepth 100000

theorem toList_eq {a b : ByteArray} : a.toList = b.toList ↔ a = b := ⟨fun h => ba_eq (by rwa [ba_toList, ba_toList] at h), fun h => by rw [h]⟩
theorem toList_beq {a b : ByteArray} : (a.toList == b.toList) = true ↔ a = b := by rw [beq_iff_eq, toList_eq]
theorem toList_nbeq {a b : ByteArray} : (a.toList == b.toList) = false ↔ ¬ a = b := by rw [beq_eq_false_iff_ne, Ne, toList_eq]

theorem TokensTexts_spec (s : ByteArray) (hs : (s.size : Int) ≤ 9223372036854775807) : pureF Try.prog 7 [.p (.str s)] (.p (.bool true)) := by
  refine pureF_of f7_ok fun H => ?_
  have hw := works_spec
  (conv => whnf)
  refine splitB_dec (fun h1 => ?_) (fun h1 => ?_)
  · (conv => whnf)
    refine CallVC.pureF hw rfl ?_
    (conv => whnf)
    exact ⟨rfl, rfl⟩
  have hsz : s.size ≤ 1073741824 := by omega
  (conv => whnf)
  refine CallVC.pureF (Quote_spec s hsz) rfl ?_
  (conv => whnf)
  refine CallVC.pureF (refQuote_spec s hsz) rfl ?_
  (conv => whnf)
  refine splitB_t (toList_beq.2 rfl) ?_
  (conv => whnf)
  refine CallVC.pureF (Name_spec s hs) rfl ?_
  (conv => whnf)
  refine CallVC.pureF (refName_spec s hs) rfl ?_
  (conv => whnf)
  refine splitB_t (beq_self_eq_true _) ?_
  (conv => whnf)
  refine CallVC.pureF hw rfl ?_
  (conv => whnf)
  exact ⟨rfl, rfl⟩

end Go.Proofs.Ytkjidklifmcpnaa.AD
