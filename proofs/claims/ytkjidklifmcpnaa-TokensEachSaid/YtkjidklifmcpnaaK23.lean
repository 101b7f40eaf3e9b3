/- Chapter 14: the document's reader: one token, all tokens. -/
import Derived.Test.YtkjidklifmcpnaaK22
import Derived.Test.YtkjidklifmcpnaaK8
namespace Go.Proofs.Ytkjidklifmcpnaa.AD
open Go.Proofs
set_option linter.unusedVariables false
set_option linter.unusedSimpArgs false
set_option maxRecDepth 100000

theorem rNext_spec (s : ByteArray) (hs : s.size ≤ 65536) (p : Nat) (c : UInt8) (r : List UInt8) (hd : s.data.toList.drop p = c :: r) : pureF Try.prog 22 [.p (.str s), .p (.int .i64 p)] (.p (resN p (nextP (c :: r)))) := by
  refine pureF_of f22_ok fun H => ?_
  obtain ⟨hg, hd', _⟩ := drop_cons hd
  have hps := sz_lt hd
  have at_c : 0 ≤ ((p : Nat) : Int) ∧ s.data.toList[Int.toNat ((p : Nat) : Int)]? = some c := ⟨by omega, by rw [Int.toNat_natCast]; exact hg⟩
  have cut1 : ∀ e : Nat, p + e ≤ s.size → s.extract (Int.toNat (p : Int)) (Int.toNat ((p + e : Nat) : Int)) = ofL ((c :: r).take e) := fun e he => by
    rw [Int.toNat_natCast, Int.toNat_natCast]; exact ext_part s p e hd
  have hlen : (c :: r).length = s.size - p := by rw [← hd, List.length_drop, ba_size]
  (conv => whnf)
  refine ⟨c, at_c, ?_⟩
  (conv => whnf)
  refine CallVC.pureF (refLetter_spec _) rfl ?_
  (conv => whnf)
  cases hla : letterB c.toNat with
  | true =>
    have hP : nextP (c :: r) = .tok 1 (ofL ((c :: r).take (whileL nam (c :: r)))) (whileL nam (c :: r)) := by simp only [nextP]; rw [if_pos hla]
    have hw := whileL_le nam (c :: r)
    rw [hP]
    generalize hn : whileL nam (c :: r) = n at hw
    refine splitB_t rfl ?_
    (conv => whnf)
    intro R hR
    have key : ∀ (rest : List UInt8) (k : Nat), s.data.toList.drop k = rest → k + whileL nam rest = p + n → R [(0, .p (.str s)), (1, .p (.int .i64 p)), (4, .ref (.l 0) 0), (7, .p (.int .i64 k))] H [.cells [.p (.int .u8 0), .p (.str ⟨#[]⟩), .p (.int .i64 0), .p (.int .i64 0)]] := by
      intro rest
      induction rest with
      | nil =>
        intro k hk hq
        have hl := sz_le hk
        simp only [whileL] at hq
        refine hR _ _ _ ?_
        (conv => whnf)
        refine splitB_f (decide_eq_false (by omega)) ?_
        repeat' ((conv => whnf); first | refine splitB_t rfl ?_ | refine splitB_f rfl ?_ | done)
        (conv => whnf)
        rw [show k = p + n by omega]
        refine ⟨⟨by omega, by omega, by omega⟩, ?_⟩
        (conv => whnf)
        rw [cut1 n (by omega)]
        exact ⟨rfl, rfl⟩
      | cons d rest ih =>
        intro k hk hq
        obtain ⟨hg2, hk', _⟩ := drop_cons hk
        have hl := sz_lt hk
        refine hR _ _ _ ?_
        (conv => whnf)
        refine splitB_t (decide_eq_true (by omega)) ?_
        (conv => whnf)
        refine ⟨d, ⟨by omega, by rw [Int.toNat_natCast]; exact hg2⟩, ?_⟩
        (conv => whnf)
        refine CallVC.pureF (refLetter_spec _) rfl ?_
        (conv => whnf)
        have goon : nam d = true → R [(0, .p (.str s)), (1, .p (.int .i64 p)), (4, .ref (.l 0) 0), (7, .p (.int .i64 ((k : Int) + 1)))] H [.cells [.p (.int .u8 0), .p (.str ⟨#[]⟩), .p (.int .i64 0), .p (.int .i64 0)]] := fun hb => by
          simp only [whileL] at hq
          rw [if_pos hb] at hq
          exact ih (k + 1) hk' (by omega)
        cases hl2 : letterB d.toNat with
        | true =>
          repeat' ((conv => whnf); first | refine splitB_t rfl ?_ | refine splitB_f rfl ?_ | done)
          (conv => whnf)
          rw [IntWalk.i64_in _ (by omega)]
          exact goon (by simp [nam, lett, hl2])
        | false =>
          refine splitB_f rfl ?_
          (conv => whnf)
          refine ⟨d, ⟨by omega, by rw [Int.toNat_natCast]; exact hg2⟩, ?_⟩
          (conv => whnf)
          refine CallVC.pureF (refDigit_spec _) rfl ?_
          (conv => whnf)
          cases hd2 : digitB d.toNat with
          | true =>
            repeat' ((conv => whnf); first | refine splitB_t rfl ?_ | refine splitB_f rfl ?_ | done)
            (conv => whnf)
            rw [IntWalk.i64_in _ (by omega)]
            exact goon (by simp [nam, dig, hd2])
          | false =>
            have hb : nam d = false := by simp [nam, lett, dig, hl2, hd2]
            simp only [whileL] at hq
            rw [if_neg (by rw [hb]; simp)] at hq
            repeat' ((conv => whnf); first | refine splitB_t rfl ?_ | refine splitB_f rfl ?_ | done)
            (conv => whnf)
            rw [show k = p + n by omega]
            refine ⟨⟨by omega, by omega, by omega⟩, ?_⟩
            (conv => whnf)
            rw [cut1 n (by omega)]
            exact ⟨rfl, rfl⟩
    exact key (c :: r) p hd (by rw [hn])
  | false =>
    refine splitB_f rfl ?_
    (conv => whnf)
    refine ⟨c, at_c, ?_⟩
    (conv => whnf)
    refine CallVC.pureF (refDigit_spec _) rfl ?_
    (conv => whnf)
    cases hda : digitB c.toNat with
    | true =>
      refine splitB_t rfl ?_
      (conv => whnf)
      refine CallVC.pureF (rNumber_spec s hs p (c :: r) (by omega) hd) rfl ?_
      (conv => whnf)
      have hP : nextP (c :: r) = .tok (numL (c :: r)).1 (ofL ((c :: r).take (numL (c :: r)).2.1)) (numL (c :: r)).2.2 := by
        simp only [nextP]; rw [if_neg (by rw [show lett c = letterB c.toNat from rfl, hla]; simp), if_pos hda]
      rw [hP]
      exact ⟨rfl, rfl⟩
    | false =>
      refine splitB_f rfl ?_
      (conv => whnf)
      refine ⟨c, at_c, ?_⟩
      (conv => whnf)
      have n1 : ¬ lett c = true := by rw [show lett c = letterB c.toNat from rfl, hla]; simp
      have n2 : ¬ dig c = true := by rw [show dig c = digitB c.toNat from rfl, hda]; simp
      refine splitB_eq (fun h34 => ?_) (fun h34 => ?_)
      · have hc : c = 34 := u8_of 34 h34 rfl
        have hP : nextP (c :: r) = strP (r.length + 1) r 1 [] := by simp only [nextP]; rw [if_neg n1, if_neg n2, if_pos hc]
        rw [hP]
        (conv => whnf)
        refine CallVC.pureF (rQuoted_spec s hs p r (by rw [hd, hc])) rfl ?_
        cases hS : strP (r.length + 1) r 1 [] with
        | err o e =>
          (conv => whnf)
          exact ⟨rfl, rfl⟩
        | tok k x len =>
          (conv => whnf)
          exact ⟨rfl, rfl⟩
      · have hc : c ≠ 34 := u8_ne 34 h34 rfl
        (conv => whnf)
        refine CallVC.pureF (rSign_spec s hs p c r hd) rfl ?_
        (conv => whnf)
        have hsl := signL_le c r
        have hP : nextP (c :: r) = if 0 < signL (c :: r) then .tok 6 (ofL ((c :: r).take (signL (c :: r)))) (signL (c :: r)) else .err 0 140 := by
          simp only [nextP]; rw [if_neg n1, if_neg n2, if_neg hc]
        rw [hP]
        generalize signL (c :: r) = n at hsl
        refine splitB_eq (fun h0 => ?_) (fun h0 => ?_)
        · rw [if_neg (by omega)]
          (conv => whnf)
          exact ⟨rfl, rfl⟩
        · rw [if_pos (by omega)]
          (conv => whnf)
          rw [IntWalk.i64_in _ (by omega)]
          refine ⟨⟨by omega, by omega, by omega⟩, ?_⟩
          (conv => whnf)
          rw [show (p : Int) + (n : Int) = ((p + n : Nat) : Int) by omega, cut1 n (by omega), IntWalk.i64_in _ (by omega)]
          exact ⟨rfl, rfl⟩

end Go.Proofs.Ytkjidklifmcpnaa.AD
