/- Chapter 14: signs and numbers. -/
import Derived.Test.YtkjidklifmcpnaaK1
namespace Go.Proofs.Ytkjidklifmcpnaa.AD
open Go.Proofs
set_option linter.unusedVariables false
set_option linter.unusedSimpArgs false
set_option maxRecDepth 100000

def preB (p l : List UInt8) : Bool := decide (l.take p.length = p)

theorem litePrefix_spec (s p : ByteArray) : pureF Try.prog 54 [.p (.str s), .p (.str p)] (.p (.bool (preB p.data.toList s.data.toList))) := by
  refine pureF_of f54_ok fun H => ?_
  (conv => whnf)
  refine splitB_dec (fun h => ?_) (fun h => ?_)
  · (conv => whnf)
    refine ⟨⟨by omega, by omega⟩, ?_⟩
    (conv => whnf)
    refine ⟨congrArg (fun b => AV.p (PV.bool b)) ?_, rfl⟩
    rw [Bool.eq_iff_iff, beq_iff_eq, ba_ext, ext_data, preB, decide_eq_true_eq, List.drop_zero, Int.toNat_natCast, ba_size]
  · (conv => whnf)
    refine ⟨congrArg (fun b => AV.p (PV.bool b)) ?_, rfl⟩
    symm
    rw [preB, decide_eq_false_iff_not]
    intro e
    have := congrArg List.length e
    rw [List.length_take] at this
    rw [ba_size, ba_size] at h
    omega
theorem prefix_spec (s p : ByteArray) : pureF Try.prog 50 [.p (.str s), .p (.str p)] (.p (.bool (preB p.data.toList s.data.toList))) := by
  refine pureF_of f50_ok fun H => ?_
  (conv => whnf)
  refine CallVC.pureF (litePrefix_spec s p) rfl ?_
  exact ⟨rfl, rfl⟩

theorem preB_len {p l : List UInt8} (h : preB p l = true) : p.length ≤ l.length := by
  rw [preB, decide_eq_true_eq] at h
  have := congrArg List.length h
  rw [List.length_take] at this
  omega

def cutP (s p : ByteArray) : ByteArray × Bool := if preB p.data.toList s.data.toList then (ofL (s.data.toList.drop p.data.toList.length), true) else (s, false)
theorem liteCutPrefix_spec (s p : ByteArray) : pureF Try.prog 53 [.p (.str s), .p (.str p)] (.p (.tup [.str (cutP s p).1, .bool (cutP s p).2])) := by
  refine pureF_of f53_ok fun H => ?_
  (conv => whnf)
  refine CallVC.pureF (litePrefix_spec s p) rfl ?_
  (conv => whnf)
  cases hb : preB p.data.toList s.data.toList with
  | false =>
    refine splitB_t rfl ?_
    exact ⟨by rw [cutP, hb]; rfl, rfl⟩
  | true =>
    have hl := preB_len hb
    rw [← ba_size, ← ba_size] at hl
    refine splitB_f rfl ?_
    (conv => whnf)
    refine ⟨⟨by omega, by omega⟩, ?_⟩
    exact ⟨by rw [cutP, hb, Int.toNat_natCast, ext_ofL, List.take_of_length_le (by rw [← ba_size]; exact Nat.le_refl _), ba_size]; rfl, rfl⟩
theorem cutPrefix_spec (s p : ByteArray) : pureF Try.prog 49 [.p (.str s), .p (.str p)] (.p (.tup [.str (cutP s p).1, .bool (cutP s p).2])) := by
  refine pureF_of f49_ok fun H => ?_
  (conv => whnf)
  refine CallVC.pureF (liteCutPrefix_spec s p) rfl ?_
  exact ⟨rfl, rfl⟩

/-! ### signs -/
def twos : List ByteArray := [⟨#[45, 62]⟩, ⟨#[38, 38]⟩, ⟨#[124, 124]⟩, ⟨#[61, 61]⟩, ⟨#[33, 61]⟩, ⟨#[60, 61]⟩, ⟨#[62, 61]⟩, ⟨#[126, 61]⟩]
def ones : ByteArray := ⟨#[40, 41, 123, 125, 59, 33, 60, 62, 43, 45, 42, 47, 37, 94, 46, 36, 64, 38, 44, 61]⟩
def signL (l : List UInt8) : Nat :=
  if twos.any (fun p => preB p.data.toList l) then 2 else match l with
    | c :: _ => if 0 ≤ Lib.indexByte ones.data.toList c then 1 else 0
    | [] => 0

theorem sign_spec (s : ByteArray) (hs : s.size ≤ 65536) (p : Nat) (c : UInt8) (r : List UInt8) (hd : s.data.toList.drop p = c :: r) : Meth Try.prog 44 [.ref (.b 0) 0] (scn s p) (.int .i64 (signL (c :: r))) (scn s p) := by
  refine Meth.of f44_ok fun rest => ?_
  have hl := sz_lt hd
  have hext : (s.extract (Int.toNat p) s.size).data.toList = c :: r := by rw [ext_tail, Int.toNat_natCast, hd]
  (conv => whnf)
  refine ⟨⟨by omega, by omega⟩, ?_⟩
  generalize s.extract (Int.toNat p) s.size = t at hext ⊢
  (conv => whnf)
  intro R hR
  have key : ∀ (tw : List ByteArray) (i : Nat), twos.drop i = tw → (twos.any fun p => preB p.data.toList (c :: r)) = (tw.any fun p => preB p.data.toList (c :: r)) → R [(3, .p (.str t)), (15, .p (.agg (twos.map PV.str))), (16, .p (.int .i64 i))] (scn s p ++ rest) [] := by
    intro tw
    induction tw with
    | nil =>
      intro i hi ha
      have hlen := drop_nil hi
      have h8 : twos.length = 8 := rfl
      refine hR _ _ _ ?_
      (conv => whnf)
      refine splitB_f (decide_eq_false (by omega)) ?_
      (conv => whnf)
      refine ⟨c, ⟨by omega, by rw [hext]; rfl⟩, ?_⟩
      (conv => whnf)
      refine CallVC.pureF (strIndexByte_spec ones c) rfl ?_
      (conv => whnf)
      have hdef : signL (c :: r) = if 0 ≤ Lib.indexByte ones.data.toList c then 1 else 0 := by
        rw [signL, ha]; rfl
      refine splitB_dec (fun h => ?_) (fun h => ?_)
      · exact ⟨by rw [hdef, if_pos h]; rfl, rfl⟩
      · exact ⟨by rw [hdef, if_neg h]; rfl, rfl⟩
    | cons b tw ih =>
      intro i hi ha
      obtain ⟨hg, hi', hlt⟩ := drop_cons hi
      have h8 : twos.length = 8 := rfl
      refine hR _ _ _ ?_
      (conv => whnf)
      refine splitB_t (decide_eq_true (by omega)) ?_
      (conv => whnf)
      refine ⟨⟨by omega, by omega⟩, .str b, by rw [Int.toNat_natCast, Nat.mul_one, List.getElem?_map, hg]; rfl, ?_⟩
      (conv => whnf)
      refine CallVC.pureF (prefix_spec t b) rfl ?_
      (conv => whnf)
      rw [hext]
      rw [List.any_cons] at ha
      cases hb : preB b.data.toList (c :: r) with
      | true =>
        rw [hb] at ha
        refine splitB_t rfl ?_
        exact ⟨by rw [signL, ha]; rfl, rfl⟩
      | false =>
        rw [hb, Bool.false_or] at ha
        refine splitB_f rfl ?_
        (conv => whnf)
        rw [IntWalk.i64_in _ (by omega)]
        exact ih (i + 1) hi' ha
  exact key twos 0 rfl rfl

end Go.Proofs.Ytkjidklifmcpnaa.AD
