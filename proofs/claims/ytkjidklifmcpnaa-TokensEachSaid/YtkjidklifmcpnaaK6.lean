/- Chapter 14: a token. -/
import Derived.Test.YtkjidklifmcpnaaK5
namespace Go.Proofs.Ytkjidklifmcpnaa.AD
open Go.Proofs
set_option linter.unusedVariables false
set_option linter.unusedSimpArgs false
set_option maxRecDepth 100000

def nextP : List UInt8 → NR
  | [] => .err 0 140
  | c :: r => if lett c = true then .tok 1 (ofL ((c :: r).take (whileL nam (c :: r)))) (whileL nam (c :: r))
    else if dig c = true then .tok (numL (c :: r)).1 (ofL ((c :: r).take (numL (c :: r)).2.1)) (numL (c :: r)).2.2
    else if c = 34 then strP (r.length + 1) r 1 []
    else if 0 < signL (c :: r) then .tok 6 (ofL ((c :: r).take (signL (c :: r)))) (signL (c :: r)) else .err 0 140

theorem signL_le (c : UInt8) (r : List UInt8) : signL (c :: r) ≤ (c :: r).length := by
  unfold signL
  split
  · rename_i h
    rw [List.any_eq_true] at h
    obtain ⟨p, hp, h⟩ := h
    have := preB_len h
    have h2 : p.data.toList.length = 2 := by
      simp only [twos, List.mem_cons, List.mem_nil_iff, or_false] at hp
      rcases hp with rfl | rfl | rfl | rfl | rfl | rfl | rfl | rfl <;> rfl
    omega
  · simp only [List.length_cons]; split <;> omega

theorem next_spec (s : ByteArray) (hs : s.size ≤ 65536) (p : Nat) (c : UInt8) (r : List UInt8) (hd : s.data.toList.drop p = c :: r) : Meth Try.prog 35 [.ref (.b 0) 0] (scn s p) (resN p (nextP (c :: r))) (scn s p) := by
  refine Meth.of f35_ok fun rest => ?_
  have hlen : r.length + 1 = s.size - p := by
    have := congrArg List.length hd
    rw [List.length_drop, ← ba_size] at this
    simpa using this.symm
  have hps := sz_lt hd
  have hg := (drop_cons hd).1
  have cut1 : ∀ e : Nat, p + e ≤ s.size → s.extract (Int.toNat (p : Int)) (Int.toNat ((p + e : Nat) : Int)) = ofL ((c :: r).take e) := fun e he => by
    rw [Int.toNat_natCast, Int.toNat_natCast]; exact ext_part s p e hd
  (conv => whnf)
  refine ⟨c, ⟨by omega, by rw [Int.toNat_natCast]; exact hg⟩, ?_⟩
  (conv => whnf)
  refine CallVC.pureF (letter_spec _) rfl ?_
  (conv => whnf)
  cases hlt : letterB c.toNat with
  | true =>
    have hN : nextP (c :: r) = .tok 1 (ofL ((c :: r).take (whileL nam (c :: r)))) (whileL nam (c :: r)) := by
      simp only [nextP]; rw [if_pos hlt]
    rw [hN]
    have hw := whileL_le nam (c :: r)
    refine splitB_t rfl ?_
    (conv => whnf)
    refine while_at s hs _ (by kernel_rfl) nam (fun c => nextFn_spec _) p rest _ p (by omega) ?_
    rw [hd]
    generalize whileL nam (c :: r) = n at hw ⊢
    simp only [List.length_cons] at hw
    (conv => whnf)
    refine ⟨⟨by omega, by omega, by omega⟩, ?_⟩
    (conv => whnf)
    rw [cut1 n (by omega)]
    exact ⟨rfl, rfl⟩
  | false =>
    refine splitB_f rfl ?_
    (conv => whnf)
    refine CallVC.pureF (digit_spec _) rfl ?_
    (conv => whnf)
    cases hdg : digitB c.toNat with
    | true =>
      have hN : nextP (c :: r) = .tok (numL (c :: r)).1 (ofL ((c :: r).take (numL (c :: r)).2.1)) (numL (c :: r)).2.2 := by
        simp only [nextP]; rw [if_neg (by rw [show lett c = letterB c.toNat from rfl, hlt]; simp), if_pos hdg]
      rw [hN]
      refine splitB_t rfl ?_
      (conv => whnf)
      have q := number_spec s hs p (c :: r) (by omega) hd
      generalize numL (c :: r) = z at q ⊢
      refine CallVC.same q rfl rfl rfl ?_
      (conv => whnf)
      exact ⟨rfl, rfl⟩
    | false =>
      refine splitB_f rfl ?_
      (conv => whnf)
      have n1 : ¬ lett c = true := by rw [show lett c = letterB c.toNat from rfl, hlt]; simp
      have n2 : ¬ dig c = true := by rw [show dig c = digitB c.toNat from rfl, hdg]; simp
      refine splitB_eq (fun e34 => ?_) (fun e34 => ?_)
      · have hc : c = 34 := u8_of 34 e34 rfl
        have hN : nextP (c :: r) = strP (r.length + 1) r 1 [] := by
          simp only [nextP]; rw [if_neg n1, if_neg n2, if_pos hc]
        rw [hN]
        rw [hc] at hd
        have q := str_spec s hs p r hd
        (conv => whnf)
        cases hz : strP (r.length + 1) r 1 [] with
        | tok k t len =>
          rw [hz] at q
          refine CallVC.same q rfl rfl rfl ?_
          (conv => whnf)
          exact ⟨rfl, rfl⟩
        | err o e =>
          rw [hz] at q
          refine CallVC.same q rfl rfl rfl ?_
          (conv => whnf)
          exact ⟨rfl, rfl⟩
      · have hc : c ≠ 34 := u8_ne 34 e34 rfl
        have hsl := signL_le c r
        simp only [List.length_cons] at hsl
        have q := sign_spec s hs p c r hd
        have hN : nextP (c :: r) = if 0 < signL (c :: r) then .tok 6 (ofL ((c :: r).take (signL (c :: r)))) (signL (c :: r)) else .err 0 140 := by
          simp only [nextP]; rw [if_neg n1, if_neg n2, if_neg hc]
        rw [hN]
        generalize signL (c :: r) = n at q hsl ⊢
        (conv => whnf)
        refine CallVC.same q rfl rfl rfl ?_
        (conv => whnf)
        refine splitB_dec (fun h => ?_) (fun h => ?_)
        · rw [if_pos (by omega)]
          (conv => whnf)
          rw [IntWalk.i64_in ((p : Int) + n) (by omega)]
          refine ⟨⟨by omega, by omega, by omega⟩, ?_⟩
          (conv => whnf)
          rw [IntWalk.i64_in ((p : Int) + n) (by omega)]
          have e1 := cut1 n (by omega)
          rw [show Int.toNat ((p : Int) + n) = Int.toNat ((p + n : Nat) : Int) by omega, e1]
          exact ⟨rfl, rfl⟩
        · rw [if_neg (by omega)]
          repeat' ((conv => whnf); first | refine ⟨rfl, ?_⟩ | done)

end Go.Proofs.Ytkjidklifmcpnaa.AD
