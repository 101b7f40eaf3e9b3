/- Chapter 17: the law ConstsUnlike of the code. -/
import Derived.Test.YtnbkbmpjggemaaaP5
namespace Go.Proofs.Ytnbkbmpjggemaaa.AD
open Go.Proofs
set_option linter.unusedVariables false
set_option linter.unusedSimpArgs false
set_option maxRecDepth 100000

theorem ConstsUnlike_spec (s : ByteArray) (hs : (s.size : Int) ≤ 9223372036854775807) : pureF Try.prog 5 [.p (.str s)] (.p (.bool true)) := by
  refine pureF_of f5_ok fun H => ?_
  have hP := Parse_spec s hs
  have hw := worksC_spec
  cases hR : constR s with
  | err p e =>
    rw [hR] at hP
    obtain ⟨he, hp⟩ := constR_err hR
    (conv => whnf)
    refine CallVC.pureF hP rfl ?_
    (conv => whnf)
    refine splitB_t (by rcases he with rfl | rfl | rfl | rfl | rfl | rfl | rfl <;> rfl) ?_
    (conv => whnf)
    refine splitB_t rfl ?_
    (conv => whnf)
    refine splitB_t (decide_eq_true (by omega)) ?_
    (conv => whnf)
    refine splitB_t (decide_eq_true (by omega)) ?_
    (conv => whnf)
    refine CallVC.pureF hw rfl ?_
    (conv => whnf)
    exact ⟨rfl, rfl⟩
  | ok l =>
    rw [hR] at hP
    obtain ⟨hsz, hll, _⟩ := constR_ok hR
    obtain ⟨hgood, hun⟩ := constR_good hR
    have hml : (l.map cnP).length = l.length := by simp
    (conv => whnf)
    refine CallVC.pureF hP rfl ?_
    (conv => whnf)
    refine splitB_f rfl ?_
    (conv => whnf)
    refine splitB_f (decide_eq_false (by omega)) ?_
    (conv => whnf)
    intro R hR2
    have key : ∀ (rest : List Cn) (i : Nat), l.drop i = rest → R [(3, .p (.list 2 (l.map cnP))), (4, .p (.int .i64 0)), (6, .p (.int .i64 i))] H [] := by
      intro rest
      induction rest with
      | nil =>
        intro i hd
        have hi := drop_nil hd
        refine hR2 _ _ _ ?_
        (conv => whnf)
        refine splitB_f (decide_eq_false (by omega)) ?_
        (conv => whnf)
        refine splitB_t rfl ?_
        (conv => whnf)
        refine CallVC.pureF hw rfl ?_
        (conv => whnf)
        exact ⟨rfl, rfl⟩
      | cons x r ih =>
        intro i hd
        obtain ⟨hg, hd', hil⟩ := drop_cons hd
        obtain ⟨hn, h95, hns⟩ := hgood x (List.mem_of_getElem? hg)
        have hsplit : l = l.take i ++ x :: r := by rw [← hd, List.take_append_drop]
        have hk := hun _ _ _ hsplit
        have hf : findV l x.n = (x.v, true) := by rw [hsplit]; exact findV_at _ _ _ hk
        obtain ⟨c, w, hcw⟩ : ∃ c w, x.n.data.toList = c :: w := by
          unfold nameB at hn
          cases hx : x.n.data.toList with
          | nil => rw [hx] at hn; cases hn
          | cons c w => exact ⟨c, w, rfl⟩
        have hfind := Find_spec l x.n (by omega)
        rw [hf] at hfind
        have hnm := Name_spec x.n (by omega)
        rw [hn] at hnm
        have hx2 : (⟨#[32]⟩ ++ x.n : ByteArray).size = 1 + x.n.size := by rw [ByteArray.size_append]; rfl
        have hone := One_spec (⟨#[32]⟩ ++ x.n ++ ⟨#[10]⟩) (by rw [ByteArray.size_append, hx2]; have : (⟨#[10]⟩ : ByteArray).size = 1 := rfl; omega) l (by omega)
        rw [one_name hn (by omega) l hf] at hone
        have elem : ∀ k : Nat, k = i → (0 ≤ (k : Int) ∧ (l.map cnP)[Int.toNat (k : Int)]? = some (cnP x)) := fun k e => ⟨by omega, by rw [Int.toNat_natCast, e, List.getElem?_map, hg]; rfl⟩
        refine hR2 _ _ _ ?_
        (conv => whnf)
        refine splitB_t (decide_eq_true (by omega)) ?_
        (conv => whnf)
        refine ⟨rfl, cnP x, elem i rfl, ?_⟩
        (conv => whnf)
        refine CallVC.pureF hnm rfl ?_
        (conv => whnf)
        refine splitB_f rfl ?_
        (conv => whnf)
        refine ⟨rfl, cnP x, elem i rfl, ?_⟩
        (conv => whnf)
        refine ⟨c, ⟨by decide, by rw [hcw]; rfl⟩, ?_⟩
        (conv => whnf)
        refine splitB_f (beq_eq_false_iff_ne.2 fun h => h95 (by rw [hcw, u8_of 95 h rfl]; rfl)) ?_
        (conv => whnf)
        intro R' hR3
        have key2 : ∀ (rest2 : List Cn) (k : Nat), (l.take i).drop k = rest2 → k ≤ i → R' [(3, .p (.list 2 (l.map cnP))), (4, .p (.int .i64 0)), (6, .p (.int .i64 i)), (7, .p (.int .i64 k))] H [] := by
          intro rest2
          induction rest2 with
          | nil =>
            intro k hd2 hki
            have hk2 := drop_nil hd2
            rw [List.length_take] at hk2
            refine hR3 _ _ _ ?_
            (conv => whnf)
            refine splitB_f (decide_eq_false (by omega)) ?_
            (conv => whnf)
            refine ⟨rfl, cnP x, elem i rfl, ?_⟩
            (conv => whnf)
            refine CallVC.pureF hfind rfl ?_
            (conv => whnf)
            refine ⟨rfl, cnP x, elem i rfl, ?_⟩
            (conv => whnf)
            refine ⟨by rw [show ByteArray.size ⟨#[32]⟩ = 1 from rfl]; omega, ?_⟩
            (conv => whnf)
            refine ⟨by rw [hx2, show ByteArray.size ⟨#[10]⟩ = 1 from rfl]; omega, ?_⟩
            (conv => whnf)
            refine CallVC.pureF hone rfl ?_
            (conv => whnf)
            refine splitB_f rfl ?_
            (conv => whnf)
            refine ⟨rfl, cnP x, elem i rfl, ?_⟩
            (conv => whnf)
            refine splitB_f (bne_self_eq_false _) ?_
            (conv => whnf)
            refine splitB_f rfl ?_
            (conv => whnf)
            refine splitB_f (bne_self_eq_false _) ?_
            (conv => whnf)
            rw [IntWalk.i64_in _ (by omega)]
            exact ih (i + 1) hd'
          | cons y r2 ih2 =>
            intro k hd2 hki
            obtain ⟨hg2, hd2', hil2⟩ := drop_cons hd2
            rw [List.length_take] at hil2
            rw [List.getElem?_take_of_lt (by omega)] at hg2
            have hyx : ¬ y.n = x.n := by
              have := hk
              simp only [known, List.any_eq_false, decide_eq_true_eq] at this
              exact this y (List.mem_of_getElem? (i := k) (by rw [List.getElem?_take_of_lt (by omega)]; exact hg2))
            refine hR3 _ _ _ ?_
            (conv => whnf)
            refine splitB_t (decide_eq_true (by omega)) ?_
            (conv => whnf)
            refine ⟨rfl, cnP y, ⟨by omega, by rw [Int.toNat_natCast, List.getElem?_map, hg2]; rfl⟩, ?_⟩
            (conv => whnf)
            refine ⟨rfl, cnP x, elem i rfl, ?_⟩
            (conv => whnf)
            refine splitB_f (toList_nbeq.2 hyx) ?_
            (conv => whnf)
            rw [IntWalk.i64_in _ (by omega)]
            exact ih2 (k + 1) hd2' (by omega)
        exact key2 (l.take i) 0 rfl (Nat.zero_le _)
    exact key l 0 rfl

end Go.Proofs.Ytnbkbmpjggemaaa.AD
