/- Chapter 20: digits, names, numbers with a dot. -/
import Derived.Test.YtkjidklifmcpnaaT2
namespace Go.Proofs.Ytkjidklifmcpnaa.AD
open Go.Proofs
set_option linter.unusedVariables false
set_option linter.unusedSimpArgs false
set_option maxRecDepth 100000

def neS (s : ByteArray) : Bool := !(s.toList == (⟨#[]⟩ : ByteArray).toList)
def digitsB (s : ByteArray) : Bool := (s.data.toList.all fun c => digitB c.toNat) && neS s
def nameB (s : ByteArray) : Bool := (match s.data.toList with | [] => false | c :: r => letterB c.toNat && r.all fun c => letterB c.toNat || digitB c.toNat)

theorem sz_lt {s : ByteArray} {i : Nat} {r : List UInt8} {c : UInt8} (h : s.data.toList.drop i = c :: r) : i < s.size := by rw [ba_size]; exact (drop_cons h).2.2
theorem sz_le {s : ByteArray} {i : Nat} (h : s.data.toList.drop i = []) : s.size ≤ i := by rw [ba_size]; exact drop_nil h

theorem neS_iff (s : ByteArray) : neS s = !s.data.toList.isEmpty := by
  unfold neS
  rw [ba_toList, ba_toList]
  cases s.data.toList <;> rfl

theorem refName_spec (s : ByteArray) (hs : (s.size : Int) ≤ 9223372036854775807) : pureF Try.prog 19 [.p (.str s)] (.p (.bool (nameB s))) := by
  refine pureF_of f19_ok fun H => ?_
  (conv => whnf)
  intro R hR
  have key : ∀ (rest : List UInt8) (i : Nat), s.data.toList.drop (i + 1) = rest → nameB s = (neS s && rest.all fun c => letterB c.toNat || digitB c.toNat) → R [(0, .p (.str s)), (3, .p (.int .i64 (i + 1 : Nat)))] H [] := by
    intro rest
    induction rest with
    | nil =>
      intro i hd hq
      have hl := sz_le hd
      refine hR _ _ _ ?_
      (conv => whnf)
      refine splitB_f (decide_eq_false (by omega)) ?_
      exact ⟨by rw [hq, List.all_nil, Bool.and_true]; rfl, rfl⟩
    | cons c r ih =>
      intro i hd hq
      obtain ⟨hg, hd', _⟩ := drop_cons hd
      have hl := sz_lt hd
      rw [List.all_cons] at hq
      refine hR _ _ _ ?_
      (conv => whnf)
      refine splitB_t (decide_eq_true (by omega)) ?_
      (conv => whnf)
      refine ⟨c, ⟨by omega, hg⟩, ?_⟩
      (conv => whnf)
      refine CallVC.pureF (refLetter_spec _) rfl ?_
      (conv => whnf)
      refine splitB_intro (fun h => ?_) (fun h => ?_)
      · have h : letterB ↑c.toNat = false := by simpa using h
        rw [h, Bool.false_or] at hq
        (conv => whnf)
        refine splitB_f (beq_eq_false_iff_ne.2 (by omega)) ?_
        (conv => whnf)
        refine ⟨c, ⟨by omega, hg⟩, ?_⟩
        (conv => whnf)
        refine CallVC.pureF (refDigit_spec _) rfl ?_
        (conv => whnf)
        refine splitB_intro (fun h2 => ?_) (fun h2 => ?_)
        · have h2 : digitB ↑c.toNat = false := by simpa using h2
          exact ⟨by rw [hq, h2, Bool.false_and, Bool.and_false], rfl⟩
        · have h2 : digitB ↑c.toNat = true := by simpa using h2
          (conv => whnf)
          rw [IntWalk.i64_in _ (by omega)]
          exact ih (i + 1) hd' (by rw [hq, h2, Bool.true_and])
      · have h : letterB ↑c.toNat = true := by simpa using h
        (conv => whnf)
        refine splitB_f rfl ?_
        (conv => whnf)
        rw [IntWalk.i64_in _ (by omega)]
        exact ih (i + 1) hd' (by rw [hq, h, Bool.true_or, Bool.true_and])
  cases hd : s.data.toList with
  | nil =>
    have hl : s.size = 0 := by rw [ba_size, hd]; rfl
    refine hR _ _ _ ?_
    (conv => whnf)
    refine splitB_f (decide_eq_false (by omega)) ?_
    refine ⟨congrArg (fun b => AV.p (PV.bool b)) ?_, rfl⟩
    show neS s = _
    rw [neS_iff, nameB, hd]
    rfl
  | cons c r =>
    have hl : 0 < s.size := by rw [ba_size, hd]; simp
    have hne : neS s = true := by rw [neS_iff, hd]; rfl
    have hq : nameB s = (letterB c.toNat && r.all fun c => letterB c.toNat || digitB c.toNat) := by rw [nameB, hd]
    refine hR _ _ _ ?_
    (conv => whnf)
    refine splitB_t (decide_eq_true (by omega)) ?_
    (conv => whnf)
    refine ⟨c, ⟨by omega, by rw [hd]; rfl⟩, ?_⟩
    (conv => whnf)
    refine CallVC.pureF (refLetter_spec _) rfl ?_
    (conv => whnf)
    refine splitB_intro (fun h => ?_) (fun h => ?_)
    · have h : letterB ↑c.toNat = false := by simpa using h
      (conv => whnf)
      refine splitB_t rfl ?_
      (conv => whnf)
      refine splitB_t rfl ?_
      exact ⟨by rw [hq, h, Bool.false_and], rfl⟩
    · have h : letterB ↑c.toNat = true := by simpa using h
      (conv => whnf)
      refine splitB_f rfl ?_
      (conv => whnf)
      refine key r 0 (by rw [hd]; rfl) ?_
      rw [hq, h, hne]

/-! ### the program's own -/
theorem nameFn_spec (n : Int) : pureF Try.prog 29 [.p (.int .u8 n)] (.p (.bool (letterB n || digitB n))) := by
  refine pureF_of f29_ok fun H => ?_
  (conv => whnf)
  refine CallVC.pureF (letter_spec _) rfl ?_
  (conv => whnf)
  refine splitB_intro (fun h => ?_) (fun h => ?_)
  · exact ⟨by rw [h, Bool.true_or], rfl⟩
  · (conv => whnf)
    refine CallVC.pureF (digit_spec _) rfl ?_
    exact ⟨by rw [h, Bool.false_or], rfl⟩

/-- How far a text goes on with such bytes. -/
def whileL (p : UInt8 → Bool) : List UInt8 → Nat
  | [] => 0
  | c :: r => if p c then whileL p r + 1 else 0

theorem while_spec (s : ByteArray) (hs : (s.size : Int) ≤ 9223372036854775807) (f : Nat) (hf : enters Try.prog f = true) (p : UInt8 → Bool) (hp : ∀ c : UInt8, pureF Try.prog f [.p (.int .u8 c.toNat)] (.p (.bool (p c)))) (id : Nat) (more : List AV) (H : List Ob) (hH : H[id]? = some (.cells (.p (.str s) :: more))) (i : Nat) (hi : i ≤ s.size) :
    callA Try.prog 28 [.ref (.b id) 0, .p (.int .i64 i), .p (.fn (.func f))] H fun r H' => r = .p (.int .i64 (i + whileL p (s.data.toList.drop i) : Nat)) ∧ H' = H := by
  refine sound f28_ok ?_
  (conv => whnf)
  intro R hR
  have key : ∀ (rest : List UInt8) (j : Nat), s.data.toList.drop j = rest → j ≤ s.size → j + whileL p rest = i + whileL p (s.data.toList.drop i) → R [(0, .ref (.b id) 0), (1, .p (.int .i64 j)), (2, .p (.fn (.func f)))] H [] := by
    intro rest
    induction rest with
    | nil =>
      intro j hd hj hq
      have hl := sz_le hd
      refine hR _ _ _ ?_
      (conv => whnf)
      refine atK_in _ _ _ _ hH ?_
      (conv => whnf)
      refine splitB_f (decide_eq_false (by omega)) ?_
      (conv => whnf)
      exact ⟨by rw [← hq]; rfl, rfl⟩
    | cons c r ih =>
      intro j hd hj hq
      obtain ⟨hg, hd', _⟩ := drop_cons hd
      have hl := sz_lt hd
      refine hR _ _ _ ?_
      (conv => whnf)
      refine atK_in _ _ _ _ hH ?_
      (conv => whnf)
      refine splitB_t (decide_eq_true (by omega)) ?_
      (conv => whnf)
      refine atK_in _ _ _ _ hH ?_
      (conv => whnf)
      refine ⟨c, ⟨by omega, hg⟩, ?_⟩
      (conv => whnf)
      refine ⟨hf, ?_⟩
      refine CallVC.pureF (hp c) rfl ?_
      (conv => whnf)
      refine splitB_intro (fun h => ?_) (fun h => ?_)
      · (conv => whnf)
        rw [IntWalk.i64_in _ (by omega)]
        refine ih (j + 1) hd' (by omega) ?_
        rw [← hq, whileL, if_pos h]; omega
      · (conv => whnf)
        rw [whileL, h] at hq
        exact ⟨by rw [← hq]; rfl, rfl⟩
  exact key _ i rfl hi rfl

theorem whileL_all (p : UInt8 → Bool) : ∀ l : List UInt8, decide (whileL p l = l.length) = l.all p
  | [] => rfl
  | c :: r => by
    rw [whileL, List.all_cons]
    cases h : p c with
    | false => simp
    | true => rw [if_pos rfl, ← whileL_all p r]; simp

theorem Name_spec (s : ByteArray) (hs : (s.size : Int) ≤ 9223372036854775807) : pureF Try.prog 18 [.p (.str s)] (.p (.bool (nameB s))) := by
  refine pureF_of f18_ok fun H => ?_
  cases hd : s.data.toList with
  | nil =>
    have he : s.toList = (⟨#[]⟩ : ByteArray).toList := by rw [ba_ext, hd]
    (conv => whnf)
    refine splitB_t (by rw [he]; exact beq_self_eq_true _) ?_
    (conv => whnf)
    refine splitB_t rfl ?_
    exact ⟨by rw [nameB, hd], rfl⟩
  | cons c r =>
    have he : (s.toList == (⟨#[]⟩ : ByteArray).toList) = false := by rw [ba_toList, hd, ba_toList]; rfl
    have hl : s.size = r.length + 1 := by rw [ba_size, hd]; rfl
    have hq : nameB s = (letterB c.toNat && r.all fun c => letterB c.toNat || digitB c.toNat) := by rw [nameB, hd]
    (conv => whnf)
    refine splitB_f he ?_
    (conv => whnf)
    refine ⟨c, ⟨by omega, by rw [hd]; rfl⟩, ?_⟩
    (conv => whnf)
    refine CallVC.pureF (letter_spec _) rfl ?_
    (conv => whnf)
    refine splitB_intro (fun h => ?_) (fun h => ?_)
    · have h : letterB ↑c.toNat = false := by simpa using h
      exact ⟨by rw [hq, h, Bool.false_and], rfl⟩
    · have h : letterB ↑c.toNat = true := by simpa using h
      (conv => whnf)
      refine CallVC.pure (e := .int .i64 (1 + whileL (fun c => letterB c.toNat || digitB c.toNat) (s.data.toList.drop 1) : Nat)) (while_spec s hs 29 (by kernel_rfl) (fun c => letterB c.toNat || digitB c.toNat) (fun c => nameFn_spec _) H.length [.p (.int .i64 0)] _ ?_ 1 (by omega)) ?_
      · simp [flat, Ob.close, AV.closes, AV.close]
      · refine ⟨congrArg (fun b => AV.p (PV.bool b)) ?_, rfl⟩
        rw [hq, h, Bool.true_and, ← whileL_all, hd, List.drop_succ_cons, List.drop_zero, Bool.eq_iff_iff]
        simp
        omega

end Go.Proofs.Ytkjidklifmcpnaa.AD
