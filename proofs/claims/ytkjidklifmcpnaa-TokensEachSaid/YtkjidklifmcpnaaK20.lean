/- Chapter 14: the document's reader: digits, blanks, signs. -/
import Derived.Test.YtkjidklifmcpnaaK13
namespace Go.Proofs.Ytkjidklifmcpnaa.AD
open Go.Proofs
set_option linter.unusedVariables false
set_option linter.unusedSimpArgs false
set_option maxRecDepth 100000

theorem rDigits_spec (s : ByteArray) (hs : s.size ≤ 65536) (p : Nat) (hp : p ≤ s.size) : pureF Try.prog 45 [.p (.str s), .p (.int .i64 p)] (.p (.int .i64 (p + whileL dig (s.data.toList.drop p) : Nat))) := by
  refine pureF_of f45_ok fun H => ?_
  (conv => whnf)
  intro R hR
  have key : ∀ (rest : List UInt8) (i : Nat), s.data.toList.drop i = rest → i + whileL dig rest = p + whileL dig (s.data.toList.drop p) → R [(0, .p (.str s)), (1, .p (.int .i64 i))] H [] := by
    intro rest
    induction rest with
    | nil =>
      intro i hd hq
      have hl := sz_le hd
      refine hR _ _ _ ?_
      (conv => whnf)
      refine splitB_f (decide_eq_false (by omega)) ?_
      repeat' ((conv => whnf); first | refine splitB_t rfl ?_ | refine splitB_f rfl ?_ | done)
      (conv => whnf)
      simp only [whileL] at hq
      rw [← hq]
      exact ⟨rfl, rfl⟩
    | cons c r ih =>
      intro i hd hq
      obtain ⟨hg, hd', _⟩ := drop_cons hd
      have hl := sz_lt hd
      refine hR _ _ _ ?_
      (conv => whnf)
      refine splitB_t (decide_eq_true (by omega)) ?_
      (conv => whnf)
      refine ⟨c, ⟨by omega, by rw [Int.toNat_natCast]; exact hg⟩, ?_⟩
      (conv => whnf)
      refine CallVC.pureF (refDigit_spec _) rfl ?_
      (conv => whnf)
      simp only [whileL] at hq
      cases hc : digitB c.toNat with
      | true =>
        refine splitB_t rfl ?_
        (conv => whnf)
        rw [IntWalk.i64_in _ (by omega)]
        rw [if_pos (show dig c = true from hc)] at hq
        exact ih (i + 1) hd' (by omega)
      | false =>
        refine splitB_f rfl ?_
        (conv => whnf)
        rw [if_neg (by rw [show dig c = digitB c.toNat from rfl, hc]; simp)] at hq
        rw [← hq]
        exact ⟨rfl, rfl⟩
  exact key _ p rfl rfl

theorem rBlanks_spec (s : ByteArray) (hs : s.size ≤ 65536) (p : Nat) (hp : p ≤ s.size) : pureF Try.prog 21 [.p (.str s), .p (.int .i64 p)] (.p (.int .i64 (p + skipF false (s.data.toList.drop p) : Nat))) := by
  refine pureF_of f21_ok fun H => ?_
  (conv => whnf)
  intro R hR
  have key : ∀ (n i : Nat), s.size - i ≤ n → i ≤ s.size → i + skipF false (s.data.toList.drop i) = p + skipF false (s.data.toList.drop p) → R [(0, .p (.str s)), (1, .p (.int .i64 i))] H [] := by
    intro n
    induction n with
    | zero =>
      intro i hn hi hq
      have hd : s.data.toList.drop i = [] := List.drop_eq_nil_iff.2 (by rw [← ba_size]; omega)
      refine hR _ _ _ ?_
      (conv => whnf)
      refine splitB_f (decide_eq_false (by omega)) ?_
      (conv => whnf)
      rw [hd] at hq
      simp only [skipF] at hq
      rw [← hq]
      exact ⟨rfl, rfl⟩
    | succ n ih =>
      intro i hn hi hq
      refine hR _ _ _ ?_
      (conv => whnf)
      refine splitB_dec (fun h => ?_) (fun h => ?_)
      rotate_left
      · have hd : s.data.toList.drop i = [] := List.drop_eq_nil_iff.2 (by rw [← ba_size]; omega)
        (conv => whnf)
        rw [hd] at hq
        simp only [skipF] at hq
        rw [← hq]
        exact ⟨rfl, rfl⟩
      cases hd : s.data.toList.drop i with
      | nil => have := sz_le hd; omega
      | cons c r =>
        obtain ⟨hg, hd', _⟩ := drop_cons hd
        rw [hd] at hq
        (conv => whnf)
        refine ⟨c, ⟨by omega, by rw [Int.toNat_natCast]; exact hg⟩, ?_⟩
        (conv => whnf)
        refine splitB_eq (fun h35 => ?_) (fun h35 => ?_)
        · have hc : c = 35 := u8_of 35 h35 rfl
          subst hc
          simp only [skipF, if_true] at hq
          (conv => whnf)
          intro R2 hR3
          have key2 : ∀ (rest : List UInt8) (k : Nat), s.data.toList.drop k = rest → i < k → k ≤ s.size → k + skipF true rest = p + skipF false (s.data.toList.drop p) → R2 [(0, .p (.str s)), (1, .p (.int .i64 k))] H [] := by
            intro rest
            induction rest with
            | nil =>
              intro k hd2 hik hks hq2
              have hl := sz_le hd2
              refine hR3 _ _ _ ?_
              (conv => whnf)
              refine splitB_f (decide_eq_false (by omega)) ?_
              repeat' ((conv => whnf); first | refine splitB_t rfl ?_ | refine splitB_f rfl ?_ | done)
              (conv => whnf)
              simp only [skipF] at hq2
              exact ih k (by omega) hks (by rw [hd2]; simp only [skipF]; exact hq2)
            | cons d r2 ih2 =>
              intro k hd2 hik hks hq2
              obtain ⟨hg2, hd2', _⟩ := drop_cons hd2
              have hl := sz_lt hd2
              refine hR3 _ _ _ ?_
              (conv => whnf)
              refine splitB_t (decide_eq_true (by omega)) ?_
              (conv => whnf)
              refine ⟨d, ⟨by omega, by rw [Int.toNat_natCast]; exact hg2⟩, ?_⟩
              (conv => whnf)
              simp only [skipF] at hq2
              refine splitB_ne (fun h10 => ?_) (fun h10 => ?_)
              · rw [if_neg (u8_ne 10 h10 rfl)] at hq2
                (conv => whnf)
                rw [IntWalk.i64_in _ (by omega)]
                exact ih2 (k + 1) hd2' (by omega) (by omega) (by omega)
              · have hc : d = 10 := u8_of 10 h10 rfl
                rw [if_pos hc] at hq2
                (conv => whnf)
                exact ih k (by omega) hks (by rw [hd2, hc]; simp only [skipF]; rw [if_neg (by decide), if_pos (.inr (.inr (.inr trivial)))]; exact hq2)
          refine hR3 _ _ _ ?_
          (conv => whnf)
          refine splitB_t (decide_eq_true (by omega)) ?_
          (conv => whnf)
          refine ⟨35, ⟨by omega, by rw [Int.toNat_natCast]; exact hg⟩, ?_⟩
          (conv => whnf)
          refine splitB_t rfl ?_
          (conv => whnf)
          rw [IntWalk.i64_in _ (by omega)]
          exact key2 r (i + 1) hd' (by omega) (by omega) (by omega)
        · have n35 : c ≠ 35 := u8_ne 35 h35 rfl
          simp only [skipF] at hq
          rw [if_neg n35] at hq
          have goon : (c = 32 ∨ c = 9 ∨ c = 13 ∨ c = 10) → R [(0, .p (.str s)), (1, .p (.int .i64 ((i : Int) + 1)))] H [] := fun hb => by
            rw [if_pos hb] at hq
            exact ih (i + 1) (by omega) (by omega) (by rw [hd']; omega)
          (conv => whnf)
          refine splitB_ne (fun h9 => ?_) (fun h9 => ?_)
          rotate_left
          · repeat' ((conv => whnf); first | refine splitB_t rfl ?_ | refine splitB_f rfl ?_ | done)
            (conv => whnf)
            rw [IntWalk.i64_in _ (by omega)]
            exact goon (.inr (.inl (u8_of 9 h9 rfl)))
          have n9 : c ≠ 9 := u8_ne 9 h9 rfl
          (conv => whnf)
          refine splitB_ne (fun h10 => ?_) (fun h10 => ?_)
          rotate_left
          · repeat' ((conv => whnf); first | refine splitB_t rfl ?_ | refine splitB_f rfl ?_ | done)
            (conv => whnf)
            rw [IntWalk.i64_in _ (by omega)]
            exact goon (.inr (.inr (.inr (u8_of 10 h10 rfl))))
          have n10 : c ≠ 10 := u8_ne 10 h10 rfl
          (conv => whnf)
          refine splitB_ne (fun h13 => ?_) (fun h13 => ?_)
          rotate_left
          · repeat' ((conv => whnf); first | refine splitB_t rfl ?_ | refine splitB_f rfl ?_ | done)
            (conv => whnf)
            rw [IntWalk.i64_in _ (by omega)]
            exact goon (.inr (.inr (.inl (u8_of 13 h13 rfl))))
          have n13 : c ≠ 13 := u8_ne 13 h13 rfl
          (conv => whnf)
          refine splitB_ne (fun h32 => ?_) (fun h32 => ?_)
          rotate_left
          · repeat' ((conv => whnf); first | refine splitB_t rfl ?_ | refine splitB_f rfl ?_ | done)
            (conv => whnf)
            rw [IntWalk.i64_in _ (by omega)]
            exact goon (.inl (u8_of 32 h32 rfl))
          have n32 : c ≠ 32 := u8_ne 32 h32 rfl
          rw [if_neg (by rintro (e | e | e | e); exact n32 e; exact n9 e; exact n13 e; exact n10 e)] at hq
          repeat' ((conv => whnf); first | refine splitB_t rfl ?_ | refine splitB_f rfl ?_ | done)
          (conv => whnf)
          rw [← hq]
          exact ⟨rfl, rfl⟩
  exact key _ p (Nat.le_refl _) hp rfl

theorem indexByte_mem (c : UInt8) : ∀ l : List UInt8, 0 ≤ Lib.indexByte l c ↔ c ∈ l
  | [] => by simp [Lib.indexByte]
  | b :: l => by
    have ih := indexByte_mem c l
    have hr := indexByte_range c l
    simp only [Lib.indexByte, List.mem_cons]
    by_cases h : b = c
    · subst h; simp
    · rw [if_neg (by simpa using h)]
      split
      · rename_i h1
        have h1 : Lib.indexByte l c = -1 := by simpa using h1
        constructor
        · intro h2; omega
        · rintro (e | e)
          · exact absurd e.symm h
          · have := ih.2 e; omega
      · rename_i h1
        have h1 : ¬ Lib.indexByte l c = -1 := by simpa using h1
        constructor
        · intro h2; exact .inr (ih.1 (by omega))
        · rintro (e | e)
          · exact absurd e.symm h
          · have := ih.2 e; omega

theorem toListR_eq {a b : ByteArray} : a.toList = b.toList ↔ a = b := ⟨fun h => ba_eq (by rwa [ba_toList, ba_toList] at h), fun h => by rw [h]⟩
theorem rSign_spec (s : ByteArray) (hs : s.size ≤ 65536) (p : Nat) (c : UInt8) (r : List UInt8) (hd : s.data.toList.drop p = c :: r) : pureF Try.prog 38 [.p (.str s), .p (.int .i64 p)] (.p (.int .i64 (signL (c :: r)))) := by
  refine pureF_of f38_ok fun H => ?_
  have hl := sz_lt hd
  have hg := (drop_cons hd).1
  have h8 : twos.length = 8 := rfl
  (conv => whnf)
  intro R hR
  have key : ∀ (tw : List ByteArray) (i : Nat), twos.drop i = tw → (twos.any fun p => preB p.data.toList (c :: r)) = (tw.any fun p => preB p.data.toList (c :: r)) → R [(0, .p (.str s)), (1, .p (.int .i64 p)), (5, .p (.list 1 (twos.map PV.str))), (6, .p (.int .i64 i))] H [] := by
    intro tw
    induction tw with
    | nil =>
      intro i hi ha
      have hlen := drop_nil hi
      have hm : (twos.map PV.str).length = 8 := rfl
      refine hR _ _ _ ?_
      (conv => whnf)
      refine splitB_f (decide_eq_false (by omega)) ?_
      (conv => whnf)
      intro R2 hR2
      have hdef : signL (c :: r) = if 0 ≤ Lib.indexByte ones.data.toList c then 1 else 0 := by
        rw [signL, ha]; rfl
      have h20 : ones.size = 20 := rfl
      have key2 : ∀ (rest : List UInt8) (k : Nat), ones.data.toList.drop k = rest → (0 ≤ Lib.indexByte ones.data.toList c ↔ c ∈ rest) → R2 [(0, .p (.str s)), (1, .p (.int .i64 p)), (7, .p (.str ones)), (8, .p (.int .i64 k))] H [] := by
        intro rest
        induction rest with
        | nil =>
          intro k hk hm
          have hkl := sz_le hk
          refine hR2 _ _ _ ?_
          (conv => whnf)
          refine splitB_f (decide_eq_false (by omega)) ?_
          (conv => whnf)
          rw [hdef, if_neg (fun e => by cases hm.1 e)]
          exact ⟨rfl, rfl⟩
        | cons d rest ih =>
          intro k hk hm
          obtain ⟨hg2, hk', _⟩ := drop_cons hk
          have hkl := sz_lt hk
          refine hR2 _ _ _ ?_
          (conv => whnf)
          refine splitB_t (decide_eq_true (by omega)) ?_
          (conv => whnf)
          refine ⟨c, ⟨by omega, by rw [Int.toNat_natCast]; exact hg⟩, ?_⟩
          (conv => whnf)
          refine ⟨d, ⟨by omega, by rw [Int.toNat_natCast]; exact hg2⟩, ?_⟩
          (conv => whnf)
          refine splitB_eq (fun he => ?_) (fun he => ?_)
          · have hcd : c = d := UInt8.toNat_inj.1 (by omega)
            (conv => whnf)
            rw [hdef, if_pos (hm.2 (by rw [hcd]; exact List.mem_cons_self ..))]
            exact ⟨rfl, rfl⟩
          · have hcd : ¬ c = d := fun e => he (by rw [e])
            (conv => whnf)
            rw [IntWalk.i64_in _ (by omega)]
            exact ih (k + 1) hk' (hm.trans ⟨fun h => (List.mem_cons.1 h).elim (fun e => absurd e hcd) id, fun h => List.mem_cons_of_mem _ h⟩)
      exact key2 _ 0 rfl (indexByte_mem c _)
    | cons b tw ih =>
      intro i hi ha
      obtain ⟨hg2, hi', hlt⟩ := drop_cons hi
      have hm : (twos.map PV.str).length = 8 := rfl
      have hb2 : b.data.toList.length = 2 := (twos_sep b (List.mem_of_getElem? hg2)).2
      rw [List.any_cons] at ha
      refine hR _ _ _ ?_
      (conv => whnf)
      refine splitB_t (decide_eq_true (by omega)) ?_
      (conv => whnf)
      have hlen : r.length + 1 = s.size - p := by
        have := congrArg List.length hd
        rw [List.length_drop, ← ba_size] at this
        simpa using this.symm
      rw [IntWalk.i64_in _ (by omega)]
      refine splitB_dec (fun h2 => ?_) (fun h2 => ?_)
      rotate_left
      · have hb : preB b.data.toList (c :: r) = false := by
          cases hp : preB b.data.toList (c :: r) with
          | false => rfl
          | true => have := preB_len hp; simp only [List.length_cons] at this; omega
        rw [hb, Bool.false_or] at ha
        repeat' ((conv => whnf); first | refine splitB_t rfl ?_ | refine splitB_f rfl ?_ | done)
        (conv => whnf)
        rw [IntWalk.i64_in _ (by omega)]
        exact ih (i + 1) hi' ha
      (conv => whnf)
      rw [IntWalk.i64_in _ (by omega)]
      refine ⟨⟨by omega, by omega, by omega⟩, ?_⟩
      (conv => whnf)
      refine ⟨rfl, .str b, ⟨by omega, by rw [Int.toNat_natCast, List.getElem?_map, hg2]; rfl⟩, ?_⟩
      (conv => whnf)
      have hex : s.extract (Int.toNat (p : Int)) (Int.toNat ((p : Int) + 2)) = ofL ((c :: r).take 2) := by
        rw [show ((p : Int) + 2).toNat = p + 2 by omega, Int.toNat_natCast]; exact ext_part s p 2 hd
      rw [hex]
      cases hb : preB b.data.toList (c :: r) with
      | true =>
        have hb' := hb
        rw [preB, decide_eq_true_eq, hb2] at hb'
        refine splitB_t (by rw [beq_iff_eq, toListR_eq, hb', ofL_of]) ?_
        rw [hb] at ha
        (conv => whnf)
        rw [signL, ha]
        exact ⟨rfl, rfl⟩
      | false =>
        have hb' := hb
        rw [preB, decide_eq_false_iff_not, hb2] at hb'
        refine splitB_f (by rw [beq_eq_false_iff_ne, Ne, toListR_eq]; intro e; exact hb' (by rw [← e, ofL_data])) ?_
        rw [hb, Bool.false_or] at ha
        (conv => whnf)
        rw [IntWalk.i64_in _ (by omega)]
        exact ih (i + 1) hi' ha
  exact key twos 0 rfl rfl

end Go.Proofs.Ytkjidklifmcpnaa.AD
