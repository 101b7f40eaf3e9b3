/- Chapter 17: the law ConstsBack of the code. -/
import Derived.Test.YtnbkbmpjggemaaaP9
namespace Go.Proofs.Ytnbkbmpjggemaaa.AD
open Go.Proofs
set_option linter.unusedVariables false
set_option linter.unusedSimpArgs false
set_option maxRecDepth 100000

theorem ConstsBack_spec (s : ByteArray) (hs : (s.size : Int) ≤ 9223372036854775807) : pureF Try.prog 6 [.p (.str s)] (.p (.bool true)) := by
  refine pureF_of f6_ok fun H => ?_
  have hP := Parse_spec s hs
  have hw := worksC_spec
  cases hR : constR s with
  | err p e =>
    rw [hR] at hP
    obtain ⟨he, hp⟩ := constR_err hR
    (conv => whnf)
    refine CallVC.pureF hP rfl ?_
    (conv => whnf)
    refine splitB_t (by rcases he with rfl | rfl | rfl | rfl | rfl | rfl | rfl <;> rfl) ?_
    (conv => whnf)
    refine CallVC.pureF hw rfl ?_
    (conv => whnf)
    exact ⟨rfl, rfl⟩
  | ok l =>
    rw [hR] at hP
    obtain ⟨hsz, hll, _⟩ := constR_ok hR
    have hfit := const_fit hR
    have hml : (l.map cnP).length = l.length := by simp
    (conv => whnf)
    refine CallVC.pureF hP rfl ?_
    (conv => whnf)
    refine splitB_f rfl ?_
    (conv => whnf)
    intro R hR2
    have key : ∀ (rest : List Cn) (i : Nat) (acc : ByteArray), l.drop i = rest → acc.data.toList ++ rest.flatMap lineL = l.flatMap lineL → acc.size ≤ 65536 → R [(3, .p (.list 2 (l.map cnP))), (6, .p (.str acc)), (7, .p (.int .i64 i))] H [] := by
      intro rest
      induction rest with
      | nil =>
        intro i acc hd hq hac
        have hi := drop_nil hd
        rw [List.flatMap_nil, List.append_nil] at hq
        have hB := Parse_spec acc (by omega)
        rw [const_back hR hq hac] at hB
        refine hR2 _ _ _ ?_
        (conv => whnf)
        refine splitB_f (decide_eq_false (by omega)) ?_
        (conv => whnf)
        refine CallVC.pureF hB rfl ?_
        (conv => whnf)
        refine splitB_t rfl ?_
        (conv => whnf)
        refine splitB_t rfl ?_
        (conv => whnf)
        refine CallVC.pureF (SameC_spec l (by omega)) rfl ?_
        (conv => whnf)
        refine splitB_t rfl ?_
        (conv => whnf)
        refine CallVC.pureF hw rfl ?_
        (conv => whnf)
        exact ⟨rfl, rfl⟩
      | cons x r ih =>
        intro i acc hd hq hac
        obtain ⟨hg, hd', hil⟩ := drop_cons hd
        obtain ⟨f1, f2⟩ := hfit x (List.mem_of_getElem? hg)
        have hQ := Quote_spec x.v (by omega)
        have hql : (⟨(quoteL x.v.data.toList).toArray⟩ : ByteArray).size ≤ 4 * x.v.size + 2 := by
          rw [ba_size]
          have := quoteBs_len x.v.data.toList
          rw [← ba_size] at this
          simp only [quoteL, List.length_cons, List.length_append, List.length_nil]
          omega
        have h61 : (⟨#[61]⟩ : ByteArray).size = 1 := rfl
        have h10 : (⟨#[10]⟩ : ByteArray).size = 1 := rfl
        refine hR2 _ _ _ ?_
        (conv => whnf)
        refine splitB_t (decide_eq_true (by omega)) ?_
        (conv => whnf)
        refine ⟨rfl, cnP x, ⟨by omega, by rw [Int.toNat_natCast, List.getElem?_map, hg]; rfl⟩, ?_⟩
        (conv => whnf)
        refine ⟨by omega, ?_⟩
        (conv => whnf)
        refine ⟨by rw [ByteArray.size_append, h61]; omega, ?_⟩
        (conv => whnf)
        refine ⟨rfl, cnP x, ⟨by omega, by rw [Int.toNat_natCast, List.getElem?_map, hg]; rfl⟩, ?_⟩
        (conv => whnf)
        refine CallD.pureF hQ rfl ?_
        (conv => whnf)
        refine ⟨by rw [ByteArray.size_append, ByteArray.size_append, h61]; omega, ?_⟩
        (conv => whnf)
        refine ⟨by rw [ByteArray.size_append, ByteArray.size_append, ByteArray.size_append, h61, h10]; omega, ?_⟩
        (conv => whnf)
        refine splitB_dec (fun hb => ?_) (fun hb => ?_)
        · (conv => whnf)
          refine CallVC.pureF hw rfl ?_
          (conv => whnf)
          exact ⟨rfl, rfl⟩
        · (conv => whnf)
          rw [IntWalk.i64_in _ (by omega)]
          refine ih (i + 1) (acc ++ x.n ++ ⟨#[61]⟩ ++ ⟨(quoteL x.v.data.toList).toArray⟩ ++ ⟨#[10]⟩) hd' ?_ (by omega)
          rw [← hq]
          simp [ByteArray.data_append, lineL]
    exact key l 0 ⟨#[]⟩ rfl rfl (by decide)

end Go.Proofs.Ytnbkbmpjggemaaa.AD
