/- Chapter 17: the law ConstsJoin of the code. -/
import Derived.Test.YtnbkbmpjggemaaaP3
namespace Go.Proofs.Ytnbkbmpjggemaaa.AD
open Go.Proofs
set_option linter.unusedVariables false
set_option linter.unusedSimpArgs false
set_option maxRecDepth 100000

theorem ConstsJoin_spec (a b : ByteArray) (ha : (a.size : Int) ≤ 9223372036854775807) (hb : (b.size : Int) ≤ 9223372036854775807) : pureF Try.prog 3 [.p (.str a), .p (.str b)] (.p (.bool true)) := by
  refine pureF_of f3_ok fun H => ?_
  have hA := Parse_spec a ha
  have hB := Parse_spec b hb
  have hw := worksC_spec
  cases hRa : constR a with
  | err p e =>
    rw [hRa] at hA
    obtain ⟨he, hp⟩ := constR_err hRa
    cases hRb : constR b with
    | err p' e' =>
      rw [hRb] at hB
      (conv => whnf)
      refine CallVC.pureF hA rfl ?_
      (conv => whnf)
      refine CallVC.pureF hB rfl ?_
      (conv => whnf)
      refine splitB_t (by rcases he with rfl | rfl | rfl | rfl | rfl | rfl | rfl <;> rfl) ?_
      repeat' ((conv => whnf); first | refine splitB_t rfl ?_ | refine splitB_f rfl ?_ | done)
      (conv => whnf)
      refine CallVC.pureF hw rfl ?_
      (conv => whnf)
      exact ⟨rfl, rfl⟩
    | ok m =>
      rw [hRb] at hB
      (conv => whnf)
      refine CallVC.pureF hA rfl ?_
      (conv => whnf)
      refine CallVC.pureF hB rfl ?_
      (conv => whnf)
      refine splitB_t (by rcases he with rfl | rfl | rfl | rfl | rfl | rfl | rfl <;> rfl) ?_
      repeat' ((conv => whnf); first | refine splitB_t rfl ?_ | refine splitB_f rfl ?_ | done)
      (conv => whnf)
      refine CallVC.pureF hw rfl ?_
      (conv => whnf)
      exact ⟨rfl, rfl⟩
  | ok l =>
    rw [hRa] at hA
    obtain ⟨hsa, hll, ta, hta, hcl, htl⟩ := constR_ok hRa
    have hml : (l.map cnP).length = l.length := by simp
    cases hRb : constR b with
    | err p e =>
      rw [hRb] at hB
      obtain ⟨he, hp⟩ := constR_err hRb
      (conv => whnf)
      refine CallVC.pureF hA rfl ?_
      (conv => whnf)
      refine CallVC.pureF hB rfl ?_
      (conv => whnf)
      refine splitB_f rfl ?_
      (conv => whnf)
      refine splitB_t (by rcases he with rfl | rfl | rfl | rfl | rfl | rfl | rfl <;> rfl) ?_
      repeat' ((conv => whnf); first | refine splitB_t rfl ?_ | refine splitB_f rfl ?_ | done)
      (conv => whnf)
      refine CallVC.pureF hw rfl ?_
      (conv => whnf)
      exact ⟨rfl, rfl⟩
    | ok m =>
      rw [hRb] at hB
      obtain ⟨hsb, hlm, tb, htb, hcm, htm⟩ := constR_ok hRb
      have hmm : (m.map cnP).length = m.length := by simp
      (conv => whnf)
      refine CallVC.pureF hA rfl ?_
      (conv => whnf)
      refine CallVC.pureF hB rfl ?_
      (conv => whnf)
      refine splitB_f rfl ?_
      (conv => whnf)
      refine splitB_f rfl ?_
      (conv => whnf)
      refine splitB_dec (fun h1 => ?_) (fun h1 => ?_)
      · repeat' ((conv => whnf); first | refine splitB_t rfl ?_ | refine splitB_f rfl ?_ | done)
        (conv => whnf)
        refine CallVC.pureF hw rfl ?_
        (conv => whnf)
        exact ⟨rfl, rfl⟩
      (conv => whnf)
      refine splitB_dec (fun h2 => ?_) (fun h2 => ?_)
      · repeat' ((conv => whnf); first | refine splitB_t rfl ?_ | refine splitB_f rfl ?_ | done)
        (conv => whnf)
        refine CallVC.pureF hw rfl ?_
        (conv => whnf)
        exact ⟨rfl, rfl⟩
      (conv => whnf)
      refine splitB_dec (fun h3 => ?_) (fun h3 => ?_)
      · repeat' ((conv => whnf); first | refine splitB_t rfl ?_ | refine splitB_f rfl ?_ | done)
        (conv => whnf)
        refine CallVC.pureF hw rfl ?_
        (conv => whnf)
        exact ⟨rfl, rfl⟩
      have h3' : l.length + m.length ≤ 256 := by
        rw [hml, hmm, IntWalk.i64_in _ (by omega)] at h3
        omega
      (conv => whnf)
      intro R hR
      have key : ∀ (rest : List Cn) (i : Nat) (tw : Bool), m.drop i = rest → (tw || rest.any fun c => known l c.n) = (m.any fun c => known l c.n) →
          R [(0, .p (.str a)), (1, .p (.str b)), (5, .p (.list 2 (l.map cnP))), (8, .p (.list 2 (m.map cnP))), (11, .p (.bool tw)), (12, .p (.int .i64 i))] H [] := by
        intro rest
        induction rest with
        | nil =>
          intro i tw hd hq
          have hi := drop_nil hd
          rw [List.any_nil, Bool.or_false] at hq
          obtain ⟨hj1, hj2⟩ := const_join (s := a ++ (⟨#[10]⟩ : ByteArray) ++ b) hRa hRb (by omega) (by omega) h3' (by simp [ByteArray.data_append])
          have hap : (a ++ (⟨#[10]⟩ : ByteArray)).size = a.size + 1 := ByteArray.size_append
          have hC := Parse_spec (a ++ (⟨#[10]⟩ : ByteArray) ++ b) (by rw [ByteArray.size_append, hap]; omega)
          refine hR _ _ _ ?_
          (conv => whnf)
          refine splitB_f (decide_eq_false (by omega)) ?_
          (conv => whnf)
          refine ⟨by rw [show ByteArray.size ⟨#[10]⟩ = 1 from rfl]; omega, ?_⟩
          (conv => whnf)
          refine ⟨by rw [hap]; omega, ?_⟩
          (conv => whnf)
          refine CallVC.pureF hC rfl ?_
          cases tw with
          | true =>
            obtain ⟨p, hj⟩ := hj2 (by
              have := hq.symm
              rw [List.any_eq_true] at this
              exact this)
            rw [hj]
            (conv => whnf)
            refine splitB_t rfl ?_
            repeat' ((conv => whnf); first | refine splitB_t rfl ?_ | refine splitB_f rfl ?_ | done)
            (conv => whnf)
            refine CallVC.pureF hw rfl ?_
            (conv => whnf)
            exact ⟨rfl, rfl⟩
          | false =>
            have hj := hj1 (fun c hc => by
              have := hq.symm
              rw [List.any_eq_false] at this
              cases hk : known l c.n with
              | false => rfl
              | true => exact absurd hk (this c hc))
            rw [hj]
            have hln : ((l ++ m).map cnP).length = l.length + m.length := by simp
            (conv => whnf)
            refine splitB_f rfl ?_
            (conv => whnf)
            refine splitB_t rfl ?_
            (conv => whnf)
            refine splitB_t (by rw [hln, hml, hmm, IntWalk.i64_in _ (by omega)]; exact beq_iff_eq.2 (by omega)) ?_
            (conv => whnf)
            refine ⟨rfl, ?_⟩
            (conv => whnf)
            refine ⟨by rw [hln, hml]; omega, ?_⟩
            (conv => whnf)
            rw [show List.take ((List.map cnP l).length : Int).toNat (List.map cnP (l ++ m)) = l.map cnP by rw [Int.toNat_natCast, List.map_append, List.take_left]]
            refine CallVC.pureF (SameC_spec l (by omega)) rfl ?_
            (conv => whnf)
            refine splitB_t rfl ?_
            (conv => whnf)
            refine ⟨rfl, ?_⟩
            (conv => whnf)
            refine ⟨by rw [hln, hml]; omega, ?_⟩
            (conv => whnf)
            rw [show List.drop ((List.map cnP l).length : Int).toNat (List.map cnP (l ++ m)) = m.map cnP by rw [Int.toNat_natCast, List.map_append, List.drop_left]]
            refine CallVC.pureF (SameC_spec m (by omega)) rfl ?_
            (conv => whnf)
            refine splitB_t rfl ?_
            (conv => whnf)
            refine CallVC.pureF hw rfl ?_
            (conv => whnf)
            exact ⟨rfl, rfl⟩
        | cons x r ih =>
          intro i tw hd hq
          obtain ⟨hg, hd', hil⟩ := drop_cons hd
          refine hR _ _ _ ?_
          (conv => whnf)
          refine splitB_t (decide_eq_true (by omega)) ?_
          (conv => whnf)
          refine ⟨rfl, cnP x, ⟨by omega, by rw [Int.toNat_natCast, List.getElem?_map, hg]; rfl⟩, ?_⟩
          (conv => whnf)
          refine CallVC.pureF (Find_spec l x.n (by omega)) rfl ?_
          rw [List.any_cons, ← findV_known] at hq
          cases tw with
          | true =>
            (conv => whnf)
            refine splitB_t rfl ?_
            (conv => whnf)
            rw [IntWalk.i64_in _ (by omega)]
            exact ih (i + 1) true hd' (by rw [← hq, Bool.true_or, Bool.true_or])
          | false =>
            (conv => whnf)
            refine splitB_f rfl ?_
            (conv => whnf)
            rw [IntWalk.i64_in _ (by omega)]
            exact ih (i + 1) _ hd' (by rw [← hq, Bool.false_or])
      exact key m 0 false rfl (Bool.false_or _)

end Go.Proofs.Ytnbkbmpjggemaaa.AD
