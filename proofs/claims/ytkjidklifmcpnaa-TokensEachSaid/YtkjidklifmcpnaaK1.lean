/- Chapter 14: blanks and remarks; a text that begins so. -/
import Derived.Test.YtkjidklifmcpnaaT4
namespace Go.Proofs.Ytkjidklifmcpnaa.AD
open Go.Proofs
set_option linter.unusedVariables false
set_option linter.unusedSimpArgs false
set_option maxRecDepth 100000

/-! ### texts as rows of bytes -/
def ofL (l : List UInt8) : ByteArray := ⟨l.toArray⟩
theorem ofL_data (l : List UInt8) : (ofL l).data.toList = l := by simp [ofL]
theorem ba_eq {a b : ByteArray} (h : a.data.toList = b.data.toList) : a = b := by
  cases a with | mk x => cases b with | mk y =>
    have : x = y := Array.ext' h
    subst this; rfl
theorem ofL_of (s : ByteArray) : ofL s.data.toList = s := ba_eq (ofL_data _)
theorem ext_data (s : ByteArray) (i j : Nat) : (s.extract i j).data.toList = (s.data.toList.take j).drop i := by
  rw [ByteArray.data_extract, Array.toList_extract, List.extract_eq_take_drop, List.drop_take]
theorem ext_tail (s : ByteArray) (i : Nat) : (s.extract i s.size).data.toList = s.data.toList.drop i := by
  rw [ext_data, List.take_of_length_le (by rw [← ba_size]; exact Nat.le_refl _)]
theorem ext_ofL (s : ByteArray) (i j : Nat) : s.extract i j = ofL ((s.data.toList.take j).drop i) := ba_eq (by rw [ext_data, ofL_data])
theorem ext_part (s : ByteArray) (i n : Nat) {l : List UInt8} (h : s.data.toList.drop i = l) : s.extract i (i + n) = ofL (l.take n) := by
  rw [ext_ofL, List.drop_take, ← h]; congr 2; omega
theorem get_of_drop {s : ByteArray} {i k : Nat} {l : List UInt8} {c : UInt8} (h : s.data.toList.drop i = l) (hc : l[k]? = some c) : s.data.toList[i + k]? = some c := by
  rw [← h, List.getElem?_drop] at hc; exact hc

/-! ### blanks -/
def skipF : Bool → List UInt8 → Nat
  | _, [] => 0
  | true, c :: r => if c = 10 then skipF false r + 1 else skipF true r + 1
  | false, c :: r => if c = 35 then skipF true r + 1 else if c = 32 ∨ c = 9 ∨ c = 13 ∨ c = 10 then skipF false r + 1 else 0

theorem skipF_le : ∀ (l : List UInt8) (b : Bool), skipF b l ≤ l.length
  | [], b => by cases b <;> simp [skipF]
  | c :: r, b => by
    have h1 := skipF_le r true
    have h2 := skipF_le r false
    cases b
    · simp only [skipF, List.length_cons]; split
      · omega
      · split <;> omega
    · simp only [skipF, List.length_cons]; split <;> omega

theorem u8_of {c : UInt8} (d : UInt8) {k : Int} (h : (c.toNat : Int) = k) (hk : (d.toNat : Int) = k) : c = d := UInt8.toNat_inj.1 (by omega)
theorem u8_ne {c : UInt8} (d : UInt8) {k : Int} (h : ¬ (c.toNat : Int) = k) (hk : (d.toNat : Int) = k) : c ≠ d := fun e => h (by rw [e, hk])

theorem skip_rem : ∀ r : List UInt8, (Lib.indexByte r 10 < 0 → skipF true r = r.length) ∧ (0 ≤ Lib.indexByte r 10 → skipF true r = (Lib.indexByte r 10).toNat + skipF false (r.drop (Lib.indexByte r 10).toNat))
  | [] => by simp [Lib.indexByte, skipF]
  | c :: r => by
    obtain ⟨h1, h2⟩ := skip_rem r
    have hr := indexByte_range 10 r
    by_cases hc : c = 10
    · subst hc
      have e : Lib.indexByte ((10 : UInt8) :: r) 10 = 0 := by simp [Lib.indexByte]
      rw [e]
      refine ⟨fun h => by omega, fun _ => ?_⟩
      simp [skipF]
    · have hb : (c == 10) = false := by simpa using hc
      by_cases hj : Lib.indexByte r 10 = -1
      · have e : Lib.indexByte (c :: r) 10 = -1 := by simp [Lib.indexByte, hb, hj]
        rw [e]
        refine ⟨fun _ => ?_, fun h => by omega⟩
        simp only [skipF, if_neg hc, List.length_cons]
        rw [h1 (by omega)]
      · have e : Lib.indexByte (c :: r) 10 = Lib.indexByte r 10 + 1 := by simp [Lib.indexByte, hb, hj]
        rw [e]
        refine ⟨fun h => by omega, fun _ => ?_⟩
        simp only [skipF, if_neg hc]
        rw [h2 (by omega), show (Lib.indexByte r 10 + 1).toNat = (Lib.indexByte r 10).toNat + 1 by omega, List.drop_succ_cons]
        omega

theorem strIndexByte_spec (s : ByteArray) (c : UInt8) : pureF Try.prog 40 [.p (.str s), .p (.int .u8 c.toNat)] (.p (.int .i64 (Lib.indexByte s.data.toList c))) := by
  refine pureF_of f40_ok fun H => ?_
  (conv => whnf)
  refine CallVC.pureF (IndexByte_spec s c) rfl ?_
  exact ⟨rfl, rfl⟩

/-- A scanner. -/
def scn (s : ByteArray) (p : Int) : List Ob := [.cells [.p (.str s), .p (.int .i64 p)]]

theorem skip_spec (s : ByteArray) (hs : s.size ≤ 65536) (p : Nat) (hp : p ≤ s.size) : Meth Try.prog 34 [.ref (.b 0) 0] (scn s p) (.tup []) (scn s (p + skipF false (s.data.toList.drop p) : Nat)) := by
  refine Meth.of f34_ok fun rest => ?_
  (conv => whnf)
  intro R hR
  have key : ∀ (n q : Nat), s.size - q ≤ n → q ≤ s.size → q + skipF false (s.data.toList.drop q) = p + skipF false (s.data.toList.drop p) → R [(0, .ref (.b 0) 0)] (scn s q ++ rest) [] := by
    intro n
    induction n with
    | zero =>
      intro q hn hq he
      have hd : s.data.toList.drop q = [] := List.drop_eq_nil_iff.2 (by rw [← ba_size]; omega)
      refine hR _ _ _ ?_
      (conv => whnf)
      refine splitB_f (decide_eq_false (by omega)) ?_
      (conv => whnf)
      rw [hd] at he
      simp only [skipF] at he
      rw [show ((q : Nat) : Int) = ((p + skipF false (s.data.toList.drop p) : Nat) : Int) by omega]
      exact ⟨rfl, rfl⟩
    | succ n ih =>
      intro q hn hq he
      refine hR _ _ _ ?_
      (conv => whnf)
      refine splitB_dec (fun h => ?_) (fun h => ?_)
      · cases hd : s.data.toList.drop q with
        | nil => have := sz_le hd; omega
        | cons c r =>
          obtain ⟨hg, hd', _⟩ := drop_cons hd
          rw [hd] at he
          (conv => whnf)
          refine ⟨c, ⟨by omega, hg⟩, ?_⟩
          (conv => whnf)
          refine splitB_eq (fun h2 => ?_) (fun h2 => ?_)
          · have hc : c = 35 := u8_of 35 h2 rfl
            subst hc
            have hext : (s.extract (Int.toNat q) s.size).data.toList = 35 :: r := by rw [ext_tail, Int.toNat_natCast, hd]
            have hix := strIndexByte_spec (s.extract (Int.toNat q) s.size) 10
            rw [hext] at hix
            have hlen : r.length + 1 = s.size - q := by
              have := congrArg List.length hd
              rw [List.length_drop, ← ba_size] at this
              simpa using this.symm
            have hix2 : Lib.indexByte ((35 : UInt8) :: r) 10 = if Lib.indexByte r 10 = -1 then -1 else Lib.indexByte r 10 + 1 := by
              simp [Lib.indexByte]
            obtain ⟨k1, k2⟩ := skip_rem r
            have hrange := indexByte_range 10 r
            have he0 : skipF false ((35 : UInt8) :: r) = skipF true r + 1 := by simp [skipF]
            rw [he0] at he
            (conv => whnf)
            refine ⟨⟨by omega, by omega⟩, ?_⟩
            (conv => whnf)
            refine CallD.pureF hix rfl ?_
            (conv => whnf)
            rw [hix2]
            by_cases hj : Lib.indexByte r 10 = -1
            · rw [if_pos hj]
              refine splitB_f rfl ?_
              (conv => whnf)
              refine ih s.size (by omega) (Nat.le_refl _) ?_
              rw [List.drop_eq_nil_iff.2 (by rw [← ba_size]; exact Nat.le_refl _), ← he, k1 (by omega)]
              simp only [skipF]
              omega
            · rw [if_neg hj]
              refine splitB_t (decide_eq_true (by omega)) ?_
              (conv => whnf)
              rw [IntWalk.i64_in _ (by omega)]
              have q2 := ih (q + ((Lib.indexByte r 10).toNat + 1)) (by omega) (by omega) (by
                rw [← he, k2 (by omega), ← List.drop_drop, hd, List.drop_succ_cons]
                omega)
              rw [show ((q + ((Lib.indexByte r 10).toNat + 1) : Nat) : Int) = (q : Int) + (Lib.indexByte r 10 + 1) by omega] at q2
              exact q2
          · have hc : c ≠ 35 := u8_ne 35 h2 rfl
            have blank : (c = 32 ∨ c = 9 ∨ c = 13 ∨ c = 10) → R [(0, .ref (.b 0) 0)] (scn s ((q : Int) + 1) ++ rest) [] := fun hb2 => by
              have q2 := ih (q + 1) (by omega) (by omega) (by
                rw [← he, hd', skipF, if_neg hc, if_pos hb2]
                omega)
              exact q2
            have stop : ¬ (c = 32 ∨ c = 9 ∨ c = 13 ∨ c = 10) → ((q : Nat) : Int) = ((p + skipF false (s.data.toList.drop p) : Nat) : Int) := fun hb => by
              rw [← he, skipF, if_neg hc, if_neg hb]; rfl
            (conv => whnf)
            refine splitB_eq (fun h3 => ?_) (fun h3 => ?_)
            · repeat' ((conv => whnf); first | refine splitB_t (beq_iff_eq.2 (by assumption)) ?_ | refine splitB_f (beq_eq_false_iff_ne.2 (by assumption)) ?_ | done)
              (conv => whnf)
              rw [IntWalk.i64_in _ (by omega)]
              exact blank (.inl (u8_of 32 h3 rfl))
            (conv => whnf)
            refine splitB_eq (fun h4 => ?_) (fun h4 => ?_)
            · repeat' ((conv => whnf); first | refine splitB_t (beq_iff_eq.2 (by assumption)) ?_ | refine splitB_f (beq_eq_false_iff_ne.2 (by assumption)) ?_ | done)
              (conv => whnf)
              rw [IntWalk.i64_in _ (by omega)]
              exact blank (.inr (.inl (u8_of 9 h4 rfl)))
            (conv => whnf)
            refine splitB_eq (fun h5 => ?_) (fun h5 => ?_)
            · repeat' ((conv => whnf); first | refine splitB_t (beq_iff_eq.2 (by assumption)) ?_ | refine splitB_f (beq_eq_false_iff_ne.2 (by assumption)) ?_ | done)
              (conv => whnf)
              rw [IntWalk.i64_in _ (by omega)]
              exact blank (.inr (.inr (.inl (u8_of 13 h5 rfl))))
            (conv => whnf)
            refine splitB_eq (fun h6 => ?_) (fun h6 => ?_)
            · repeat' ((conv => whnf); first | refine splitB_t (beq_iff_eq.2 (by assumption)) ?_ | refine splitB_f (beq_eq_false_iff_ne.2 (by assumption)) ?_ | done)
              (conv => whnf)
              rw [IntWalk.i64_in _ (by omega)]
              exact blank (.inr (.inr (.inr (u8_of 10 h6 rfl))))
            repeat' ((conv => whnf); first | refine splitB_t (beq_iff_eq.2 (by assumption)) ?_ | refine splitB_f (beq_eq_false_iff_ne.2 (by assumption)) ?_ | done)
            (conv => whnf)
            rw [stop (by rintro (e | e | e | e); exact u8_ne 32 h3 rfl e; exact u8_ne 9 h4 rfl e; exact u8_ne 13 h5 rfl e; exact u8_ne 10 h6 rfl e)]
            exact ⟨rfl, rfl⟩
      · have hd : s.data.toList.drop q = [] := List.drop_eq_nil_iff.2 (by rw [← ba_size]; omega)
        (conv => whnf)
        rw [hd] at he
        simp only [skipF] at he
        rw [show ((q : Nat) : Int) = ((p + skipF false (s.data.toList.drop p) : Nat) : Int) by omega]
        exact ⟨rfl, rfl⟩
  exact key _ p (Nat.le_refl _) hp rfl

end Go.Proofs.Ytkjidklifmcpnaa.AD
