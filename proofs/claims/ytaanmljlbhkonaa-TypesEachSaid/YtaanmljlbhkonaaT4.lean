/- Chapter 20: where a byte stands in a text; a text cut in two. -/
import Derived.Test.YtaanmljlbhkonaaT3
import Derived.Lib.Bytealg
import Derived.Laws.Externs
namespace Go.Proofs.Ytaanmljlbhkonaa.AD
open Go.Proofs
set_option linter.unusedVariables false
set_option linter.unusedSimpArgs false
set_option maxRecDepth 100000

theorem ixs_ok (s : ByteArray) (c : UInt8) : XOk Try.prog 87 [.str s, .int .u8 c.toNat] (.int .i64 (Lib.indexByte s.data.toList c)) := by
  refine ⟨fun M w xs hl hx => ⟨.int .i64 (Lib.indexByte s.data.toList c), ?_, .int _ _⟩⟩
  have hl2 : xs.size = 2 := hl
  have h0 := hx 0 xs[0] _ (Array.getElem?_eq_getElem (by omega)) rfl
  have h1 := hx 1 xs[1] _ (Array.getElem?_eq_getElem (by omega)) rfl
  have he : xs = #[.string s, .int .u8 c.toNat] := by
    have e0 : xs[0] = .string s := by generalize xs[0] = x at h0; cases h0; rfl
    have e1 : xs[1] = .int .u8 c.toNat := by generalize xs[1] = x at h1; cases h1; rfl
    apply Array.ext
    · exact hl2
    · intro i h1 h2
      match i, h1, h2 with
      | 0, _, _ => exact e0
      | 1, _, _ => exact e1
  subst he
  rw [run_callFunc_extern Try.func87 (by kernel_rfl) (by kernel_rfl) (by kernel_rfl) (e := Extern.BytealgIndexByte.indexByte) (by kernel_rfl), Lib.run_indexByteString]
  simp [Result.andThen]

theorem IndexByte_spec (s : ByteArray) (c : UInt8) : pureF Try.prog 82 [.p (.str s), .p (.int .u8 c.toNat)] (.p (.int .i64 (Lib.indexByte s.data.toList c))) := by
  refine pureF_of f82_ok fun H => ?_
  (conv => whnf)
  exact ⟨_, ixs_ok s c, rfl, rfl⟩

theorem Index_spec (s : ByteArray) (c : UInt8) : pureF Try.prog 78 [.p (.str s), .p (.str ⟨#[c]⟩)] (.p (.int .i64 (Lib.indexByte s.data.toList c))) := by
  refine pureF_of f78_ok fun H => ?_
  (conv => whnf)
  refine splitB_f rfl ?_
  (conv => whnf)
  refine splitB_eq (fun h => ?_) (fun h => ?_)
  · have h2 : s.data.toList = [c] := by rw [← ba_toList, ← h, ba_toList]
    exact ⟨by rw [h2]; simp [Lib.indexByte], rfl⟩
  (conv => whnf)
  refine splitB_t rfl ?_
  (conv => whnf)
  refine ⟨c, ⟨by omega, rfl⟩, ?_⟩
  (conv => whnf)
  refine CallVC.pureF (IndexByte_spec s c) rfl ?_
  exact ⟨rfl, rfl⟩

/-- A text cut where a byte first stands. -/
def cutAt (s : ByteArray) (c : UInt8) : ByteArray × ByteArray × Bool :=
  if 0 ≤ Lib.indexByte s.data.toList c then (s.extract 0 (Lib.indexByte s.data.toList c).toNat, s.extract ((Lib.indexByte s.data.toList c) + 1).toNat s.size, true) else (s, ⟨#[]⟩, false)

theorem indexByte_range (c : UInt8) : ∀ l : List UInt8, -1 ≤ Lib.indexByte l c ∧ Lib.indexByte l c < l.length
  | [] => by simp [Lib.indexByte]
  | b :: l => by
    have := indexByte_range c l
    simp only [Lib.indexByte]
    split
    · simp
    · split
      · simp; omega
      · simp at *; omega

theorem liteCut_spec (s : ByteArray) (hs : (s.size : Int) ≤ 9223372036854775807) (c : UInt8) : pureF Try.prog 66 [.p (.str s), .p (.str ⟨#[c]⟩)] (.p (.tup [.str (cutAt s c).1, .str (cutAt s c).2.1, .bool (cutAt s c).2.2])) := by
  have hr := indexByte_range c s.data.toList
  rw [← ba_size] at hr
  refine pureF_of f66_ok fun H => ?_
  (conv => whnf)
  refine CallVC.pureF (Index_spec s c) rfl ?_
  generalize hj : Lib.indexByte s.data.toList c = j at hr
  have hc : cutAt s c = if 0 ≤ j then (s.extract 0 j.toNat, s.extract (j + 1).toNat s.size, true) else (s, ⟨#[]⟩, false) := by rw [cutAt, hj]
  (conv => whnf)
  refine splitB_dec (fun h => ?_) (fun h => ?_)
  · rw [if_pos (show 0 ≤ j by omega)] at hc
    (conv => whnf)
    refine ⟨⟨by omega, by omega⟩, ?_⟩
    (conv => whnf)
    rw [show ((({ data := #[c] } : ByteArray).size : Nat) : Int) = 1 from rfl, IntWalk.i64_in (j + 1) (by omega)]
    refine ⟨⟨by omega, by omega⟩, ?_⟩
    exact ⟨by rw [hc], rfl⟩
  · rw [if_neg (show ¬ 0 ≤ j by omega)] at hc
    exact ⟨by rw [hc], rfl⟩

theorem Cut_spec (s : ByteArray) (hs : (s.size : Int) ≤ 9223372036854775807) (c : UInt8) : pureF Try.prog 46 [.p (.str s), .p (.str ⟨#[c]⟩)] (.p (.tup [.str (cutAt s c).1, .str (cutAt s c).2.1, .bool (cutAt s c).2.2])) := by
  refine pureF_of f46_ok fun H => ?_
  (conv => whnf)
  refine CallVC.pureF (liteCut_spec s hs c) rfl ?_
  exact ⟨rfl, rfl⟩

/-! ### a number with a dot -/
def decB (s : ByteArray) : Bool := (cutAt s 46).2.2 && (digitsB (cutAt s 46).1 && digitsB (cutAt s 46).2.1)

theorem indexByte_at (c : UInt8) (l : List UInt8) : ∀ (r : List UInt8) (i : Nat), l.drop i = r → (∀ k, k < i → l[k]? ≠ some c) → Lib.indexByte l c = (if Lib.indexByte r c = -1 then -1 else Lib.indexByte r c + i) := by
  intro r i hd hn
  have main : ∀ (p r : List UInt8), (∀ k, k < p.length → p[k]? ≠ some c) → Lib.indexByte (p ++ r) c = (if Lib.indexByte r c = -1 then -1 else Lib.indexByte r c + p.length) := by
    intro p
    induction p with
    | nil => intro r _; simp
    | cons b p ih =>
      intro r h
      have hb : (b == c) = false := by
        have := h 0 (by simp)
        simpa using this
      have := ih r fun k hk => by have := h (k + 1) (by simp; omega); simpa using this
      have hrange := indexByte_range c r
      simp only [List.cons_append, Lib.indexByte, hb, this]
      by_cases h2 : Lib.indexByte r c = -1
      · simp [h2]
      · rw [if_neg h2]
        simp only [beq_iff_eq, Bool.false_eq_true, if_false, h2, List.length_cons]
        rw [if_neg (by omega)]
        omega
  by_cases hl : i ≤ l.length
  · have := main (l.take i) (l.drop i) fun k hk => by
      rw [List.getElem?_take, if_pos (by simp at hk; omega)]; exact hn k (by simp at hk; omega)
    rw [List.take_append_drop, hd] at this
    rw [this]
    simp [Nat.min_eq_left hl]
  · have hr : r = [] := by rw [← hd]; exact List.drop_eq_nil_iff.2 (by omega)
    have := main l [] fun k hk => hn k (by omega)
    rw [List.append_nil] at this
    rw [this, hr]; rfl

theorem Dec_spec (s : ByteArray) (hs : (s.size : Int) ≤ 9223372036854775807) : pureF Try.prog 38 [.p (.str s)] (.p (.bool (decB s))) := by
  refine pureF_of f38_ok fun H => ?_
  (conv => whnf)
  intro R hR
  have key : ∀ (rest : List UInt8) (i : Nat), s.data.toList.drop i = rest → (∀ k, k < i → s.data.toList[k]? ≠ some 46) → R [(0, .p (.str s)), (3, .p (.int .i64 i))] H [] := by
    intro rest
    induction rest with
    | nil =>
      intro i hd hn
      have hl := sz_le hd
      have hx := indexByte_at 46 _ _ _ hd hn
      refine hR _ _ _ ?_
      (conv => whnf)
      refine splitB_f (decide_eq_false (by omega)) ?_
      refine ⟨?_, rfl⟩
      have : Lib.indexByte s.data.toList 46 = -1 := by rw [hx]; rfl
      rw [decB, cutAt, this]
      rfl
    | cons c r ih =>
      intro i hd hn
      obtain ⟨hg, hd', _⟩ := drop_cons hd
      have hl := sz_lt hd
      refine hR _ _ _ ?_
      (conv => whnf)
      refine splitB_t (decide_eq_true (by omega)) ?_
      (conv => whnf)
      refine ⟨c, ⟨by omega, hg⟩, ?_⟩
      (conv => whnf)
      refine splitB_eq (fun h => ?_) (fun h => ?_)
      · have hc : c = 46 := by
          apply UInt8.toNat_inj.1
          have : (c.toNat : Int) = 46 := h
          have h46 : (46 : UInt8).toNat = 46 := rfl
          omega
        subst hc
        have hx : Lib.indexByte s.data.toList 46 = i := by
          rw [indexByte_at 46 _ _ _ hd hn]
          have : Lib.indexByte ((46 : UInt8) :: r) 46 = 0 := by simp [Lib.indexByte]
          rw [this]; simp
        have hcut : cutAt s 46 = (s.extract 0 i, s.extract (i + 1) s.size, true) := by
          rw [cutAt, hx, if_pos (by omega)]
          simp
        have hsz : ∀ a b, ((s.extract a b).size : Int) ≤ 9223372036854775807 := fun a b => by
          have : (s.extract a b).size ≤ s.size := by simp [ByteArray.size_extract]; omega
          omega
        have hdec : decB s = (digitsB (s.extract 0 i) && digitsB (s.extract (i + 1) s.size)) := by rw [decB, hcut]; rfl
        (conv => whnf)
        refine ⟨⟨by omega, by omega⟩, ?_⟩
        (conv => whnf)
        refine CallVC.pureF (refDigits_spec _ (hsz _ _)) rfl ?_
        (conv => whnf)
        refine splitB_intro (fun h2 => ?_) (fun h2 => ?_)
        · have h2 : digitsB (s.extract 0 i) = true := h2
          (conv => whnf)
          rw [IntWalk.i64_in _ (by omega)]
          refine ⟨⟨by omega, by omega⟩, ?_⟩
          (conv => whnf)
          refine CallVC.pureF (refDigits_spec _ (hsz _ _)) rfl ?_
          exact ⟨by rw [hdec, h2, Bool.true_and]; rfl, rfl⟩
        · have h2 : digitsB (s.extract 0 i) = false := h2
          exact ⟨by rw [hdec, h2, Bool.false_and], rfl⟩
      · (conv => whnf)
        rw [IntWalk.i64_in _ (by omega)]
        refine ih (i + 1) hd' fun k hk => ?_
        rcases Nat.lt_or_ge k i with h2 | h2
        · exact hn k h2
        · have : k = i := by omega
          subst this
          rw [hg]
          intro e
          cases e
          exact h rfl
  exact key _ 0 rfl fun k hk => absurd hk (by omega)

end Go.Proofs.Ytaanmljlbhkonaa.AD
