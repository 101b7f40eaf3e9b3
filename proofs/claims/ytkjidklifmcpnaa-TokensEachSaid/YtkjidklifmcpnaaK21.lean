/- Chapter 14: the document's reader: numbers, pieces. -/
import Derived.Test.YtkjidklifmcpnaaK20
namespace Go.Proofs.Ytkjidklifmcpnaa.AD
open Go.Proofs
set_option linter.unusedVariables false
set_option linter.unusedSimpArgs false
set_option maxRecDepth 100000

theorem rNumber_spec (s : ByteArray) (hs : s.size ≤ 65536) (p : Nat) (l : List UInt8) (hp : p ≤ s.size) (hd : s.data.toList.drop p = l) :
    pureF Try.prog 36 [.p (.str s), .p (.int .i64 p)] (.p (tokP (numL l).1 (ofL (l.take (numL l).2.1)) p (p + (numL l).2.2 : Nat))) := by
  refine pureF_of f36_ok fun H => ?_
  have hlen : l.length = s.size - p := by rw [← hd, List.length_drop, ba_size]
  have hw := whileL_le dig l
  have hD := rDigits_spec s hs p hp
  rw [hd] at hD
  generalize hn : whileL dig l = n at hw hD
  have hd2 : s.data.toList.drop (p + n) = l.drop n := by rw [← List.drop_drop, hd]
  have cut1 : ∀ e : Nat, p + e ≤ s.size → s.extract (Int.toNat (p : Int)) (Int.toNat ((p + e : Nat) : Int)) = ofL (l.take e) := fun e he => by
    rw [Int.toNat_natCast, Int.toNat_natCast]; exact ext_part s p e hd
  have hdef : numL l = match l.drop n with
      | c :: d :: _ => if c = 46 ∧ dig d = true then (3, n + 1 + whileL dig (l.drop (n + 1)), n + 1 + whileL dig (l.drop (n + 1))) else if ofB (l.drop n) = true then (5, n, n + 3) else (2, n, n)
      | _ => (2, n, n) := by unfold numL; rw [hn]; rfl
  -- the plain end
  have plain : numL l = (2, n, n) → W Try.prog f36.c14 [(0, .p (.str s)), (1, .p (.int .i64 p)), (4, .ref (.l 0) 0), (5, .p (.int .i64 (p + n : Nat)))] H [.cells [.p (.int .u8 0), .p (.str ⟨#[]⟩), .p (.int .i64 0), .p (.int .i64 0)]]
      (endQ f36 fun r' H' => r' = .p (tokP (numL l).1 (ofL (l.take (numL l).2.1)) p (p + (numL l).2.2 : Nat)) ∧ H' = H) := by
    intro e
    rw [e]
    (conv => whnf)
    refine ⟨⟨by omega, by omega, by omega⟩, ?_⟩
    (conv => whnf)
    rw [cut1 n (by omega)]
    exact ⟨rfl, rfl⟩
  -- what stands behind the digits: '-of' or not
  have tailW : numL l = (if ofB (l.drop n) = true then (5, n, n + 3) else (2, n, n)) → W Try.prog f36.c15 [(0, .p (.str s)), (1, .p (.int .i64 p)), (4, .ref (.l 0) 0), (5, .p (.int .i64 (p + n : Nat)))] H [.cells [.p (.int .u8 0), .p (.str ⟨#[]⟩), .p (.int .i64 0), .p (.int .i64 0)]]
      (endQ f36 fun r' H' => r' = .p (tokP (numL l).1 (ofL (l.take (numL l).2.1)) p (p + (numL l).2.2 : Nat)) ∧ H' = H) := by
    intro ha
    have isof : ofB (l.drop n) = true → p + n + 3 ≤ s.size → W Try.prog f36.c10 [(0, .p (.str s)), (1, .p (.int .i64 p)), (4, .ref (.l 0) 0), (5, .p (.int .i64 (p + n : Nat))), (73, .p (.bool true))] H [.cells [.p (.int .u8 0), .p (.str ⟨#[]⟩), .p (.int .i64 0), .p (.int .i64 0)]]
        (endQ f36 fun r' H' => r' = .p (tokP (numL l).1 (ofL (l.take (numL l).2.1)) p (p + (numL l).2.2 : Nat)) ∧ H' = H) := by
      intro ho hle
      rw [if_pos ho] at ha
      rw [ha]
      (conv => whnf)
      refine ⟨⟨by omega, by omega, by omega⟩, ?_⟩
      (conv => whnf)
      rw [cut1 n (by omega), IntWalk.i64_in _ (by omega)]
      exact ⟨rfl, rfl⟩
    (conv => whnf)
    rw [IntWalk.i64_in _ (by omega)]
    refine splitB_dec (fun h3 => ?_) (fun h3 => ?_)
    rotate_left
    · have ho : ofB (l.drop n) = false := by
        cases hb : ofB (l.drop n) with
        | false => rfl
        | true =>
          have hpb : preB ofS (l.drop n) = true := by
            cases h : preB ofS (l.drop n) with
            | true => rfl
            | false => rw [ofB, h] at hb; cases hb
          have := preB_len hpb
          rw [List.length_drop] at this
          have h3' : ofS.length = 3 := rfl
          omega
      rw [ho] at ha
      repeat' ((conv => whnf); first | refine splitB_t rfl ?_ | refine splitB_f rfl ?_ | done)
      have q := plain ha
      (conv at q => whnf)
      (conv => whnf)
      exact q
    (conv => whnf)
    rw [IntWalk.i64_in _ (by omega)]
    refine ⟨⟨by omega, by omega, by omega⟩, ?_⟩
    (conv => whnf)
    have hex : s.extract (Int.toNat ((p + n : Nat) : Int)) (Int.toNat (((p + n : Nat) : Int) + 3)) = ofL ((l.drop n).take 3) := by
      rw [show (((p + n : Nat) : Int) + 3).toNat = p + n + 3 by omega, Int.toNat_natCast]; exact ext_part s (p + n) 3 hd2
    rw [hex]
    cases hb : preB ofS (l.drop n) with
    | false =>
      have ho : ofB (l.drop n) = false := by rw [ofB, hb, Bool.false_and]
      rw [ho] at ha
      have hb' := hb
      rw [preB, decide_eq_false_iff_not] at hb'
      refine splitB_f (by rw [beq_eq_false_iff_ne, Ne, toListR_eq]; intro e; exact hb' (by have := congrArg (fun s : ByteArray => s.data.toList) e; rw [ofL_data] at this; exact this)) ?_
      repeat' ((conv => whnf); first | refine splitB_t rfl ?_ | refine splitB_f rfl ?_ | done)
      have q := plain ha
      (conv at q => whnf)
      (conv => whnf)
      exact q
    | true =>
      have hb' := hb
      rw [preB, decide_eq_true_eq] at hb'
      refine splitB_t (by rw [beq_iff_eq, toListR_eq, show (3 : Nat) = ofS.length from rfl, hb']; rfl) ?_
      (conv => whnf)
      rw [IntWalk.i64_in _ (by omega)]
      cases hm : (l.drop n).drop 3 with
      | nil =>
        have ho : ofB (l.drop n) = true := by rw [ofB, hb, hm]; rfl
        have hsz : p + n + 3 = s.size := by
          have := congrArg List.length hm
          rw [List.length_drop, List.length_drop, List.length_nil] at this
          omega
        refine splitB_t (beq_iff_eq.2 (by omega)) ?_
        repeat' ((conv => whnf); first | refine splitB_t rfl ?_ | refine splitB_f rfl ?_ | done)
        have q := isof ho (by omega)
        (conv at q => whnf)
        (conv => whnf)
        exact q
      | cons a m =>
        have hd3 : s.data.toList.drop (p + n + 3) = a :: m := by rw [← List.drop_drop, hd2, hm]
        have hl3 := sz_lt hd3
        have hg3 := (drop_cons hd3).1
        refine splitB_f (beq_eq_false_iff_ne.2 (by omega)) ?_
        (conv => whnf)
        rw [IntWalk.i64_in _ (by omega)]
        refine ⟨a, ⟨by omega, by rw [show (((p + n : Nat) : Int) + 3).toNat = p + n + 3 by omega]; exact hg3⟩, ?_⟩
        (conv => whnf)
        refine CallVC.pureF (refLetter_spec _) rfl ?_
        (conv => whnf)
        cases hla : letterB a.toNat with
        | true =>
          have ho : ofB (l.drop n) = false := by rw [ofB, hb, hm]; simp [lett, hla]
          rw [ho] at ha
          refine splitB_f rfl ?_
          repeat' ((conv => whnf); first | refine splitB_t rfl ?_ | refine splitB_f rfl ?_ | done)
          have q := plain ha
          (conv at q => whnf)
          (conv => whnf)
          exact q
        | false =>
          refine splitB_t rfl ?_
          (conv => whnf)
          rw [IntWalk.i64_in _ (by omega)]
          refine ⟨a, ⟨by omega, by rw [show (((p + n : Nat) : Int) + 3).toNat = p + n + 3 by omega]; exact hg3⟩, ?_⟩
          (conv => whnf)
          refine CallVC.pureF (refDigit_spec _) rfl ?_
          (conv => whnf)
          cases hda : digitB a.toNat with
          | true =>
            have ho : ofB (l.drop n) = false := by rw [ofB, hb, hm]; simp [lett, dig, hla, hda]
            rw [ho] at ha
            repeat' ((conv => whnf); first | refine splitB_t rfl ?_ | refine splitB_f rfl ?_ | done)
            have q := plain ha
            (conv at q => whnf)
            (conv => whnf)
            exact q
          | false =>
            have ho : ofB (l.drop n) = true := by rw [ofB, hb, hm]; simp [lett, dig, hla, hda]
            repeat' ((conv => whnf); first | refine splitB_t rfl ?_ | refine splitB_f rfl ?_ | done)
            have q := isof ho (by omega)
            (conv at q => whnf)
            (conv => whnf)
            exact q
  (conv => whnf)
  refine CallVC.pureF hD rfl ?_
  (conv => whnf)
  rw [IntWalk.i64_in _ (by omega)]
  refine splitB_dec (fun h1 => ?_) (fun h1 => ?_)
  rotate_left
  · have hne : numL l = (if ofB (l.drop n) = true then (5, n, n + 3) else (2, n, n)) := by
      rw [hdef]
      have hlen2 : (l.drop n).length ≤ 1 := by rw [List.length_drop]; omega
      match hm : l.drop n with
      | [] => rfl
      | [c] =>
        simp only
        have : ofB [c] = false := by
          cases hb : preB ofS [c] with
          | false => rw [ofB, hb]; rfl
          | true => have := preB_len hb; simp [ofS] at this
        rw [this]; rfl
      | c :: d :: m => rw [hm] at hlen2; simp only [List.length_cons] at hlen2; omega
    repeat' ((conv => whnf); first | refine splitB_t rfl ?_ | refine splitB_f rfl ?_ | done)
    have q := tailW hne
    (conv at q => whnf)
    (conv => whnf)
    exact q
  match hm : l.drop n with
  | [] => have := congrArg List.length hm; rw [List.length_drop, List.length_nil] at this; omega
  | [c] => have := congrArg List.length hm; rw [List.length_drop] at this; simp only [List.length_cons, List.length_nil] at this; omega
  | c :: d :: m =>
    rw [hm] at hdef hd2
    simp only at hdef
    obtain ⟨hgc, hdc, _⟩ := drop_cons hd2
    obtain ⟨hgd, hdd, _⟩ := drop_cons hdc
    (conv => whnf)
    refine ⟨c, ⟨by omega, by rw [Int.toNat_natCast]; exact hgc⟩, ?_⟩
    (conv => whnf)
    refine splitB_eq (fun h46 => ?_) (fun h46 => ?_)
    rotate_left
    · have n46 : c ≠ 46 := u8_ne 46 h46 rfl
      rw [if_neg (fun e => n46 e.1)] at hdef
      repeat' ((conv => whnf); first | refine splitB_t rfl ?_ | refine splitB_f rfl ?_ | done)
      have q := tailW (by rw [hm]; exact hdef)
      (conv at q => whnf)
      (conv => whnf)
      exact q
    have hc46 : c = 46 := u8_of 46 h46 rfl
    (conv => whnf)
    rw [IntWalk.i64_in _ (by omega)]
    refine ⟨d, ⟨by omega, by rw [show (((p + n : Nat) : Int) + 1).toNat = p + n + 1 by omega]; exact hgd⟩, ?_⟩
    (conv => whnf)
    refine CallVC.pureF (refDigit_spec _) rfl ?_
    (conv => whnf)
    cases hdg : digitB d.toNat with
    | false =>
      rw [if_neg (by rintro ⟨_, e⟩; rw [show dig d = digitB d.toNat from rfl, hdg] at e; cases e)] at hdef
      repeat' ((conv => whnf); first | refine splitB_t rfl ?_ | refine splitB_f rfl ?_ | done)
      have q := tailW (by rw [hm]; exact hdef)
      (conv at q => whnf)
      (conv => whnf)
      exact q
    | true =>
      rw [if_pos ⟨hc46, hdg⟩] at hdef
      have hD2 := rDigits_spec s hs (p + n + 1) (by omega)
      have hd4 : s.data.toList.drop (p + n + 1) = l.drop (n + 1) := by rw [← hd, List.drop_drop]; congr 1
      rw [hd4] at hD2
      have hw2 := whileL_le dig (l.drop (n + 1))
      rw [List.length_drop] at hw2
      generalize whileL dig (l.drop (n + 1)) = w at hD2 hdef hw2
      rw [hdef]
      repeat' ((conv => whnf); first | refine splitB_t rfl ?_ | refine splitB_f rfl ?_ | done)
      (conv => whnf)
      rw [IntWalk.i64_in _ (by omega)]
      refine CallVC.pureF hD2 rfl ?_
      (conv => whnf)
      refine ⟨⟨by omega, by omega, by omega⟩, ?_⟩
      (conv => whnf)
      rw [show p + n + 1 + w = p + (n + 1 + w) by omega, cut1 (n + 1 + w) (by omega)]
      exact ⟨rfl, rfl⟩

/-! ### what a backslash begins -/
def resP (i : Nat) : PR → PV
  | .ok [] n => .tup [.nils, .int .i64 (i + 1 + n : Nat), .int .i64 0]
  | .ok (c :: r) n => .tup [.list 1 (bsP (c :: r)), .int .i64 (i + 1 + n : Nat), .int .i64 0]
  | .cut => .tup [.nils, .int .i64 0, .int .i64 141]
  | .bad => .tup [.nils, .int .i64 0, .int .i64 142]

theorem octal_spec (c : UInt8) : pureF Try.prog 51 [.p (.int .u8 c.toNat)] (.p (.bool (oct c))) := by
  refine pureF_of f51_ok fun H => ?_
  repeat' ((conv => whnf); (first | refine splitB_t rfl ?_ | refine splitB_f rfl ?_ | refine splitB_dec (fun h => ?_) (fun h => ?_) | refine splitB_eq (fun h => ?_) (fun h => ?_) | refine splitB_ne (fun h => ?_) (fun h => ?_) | refine splitB_intro (fun h => ?_) (fun h => ?_)))
  all_goals exact ⟨congrArg (fun b => AV.p (PV.bool b)) (by rw [Bool.eq_iff_iff]; simp [oct] <;> omega), rfl⟩

theorem rPiece_spec (s : ByteArray) (hs : s.size ≤ 65536) (i : Nat) (l : List UInt8) (hi : i < s.size) (hd : s.data.toList.drop (i + 1) = l) : pureF Try.prog 46 [.p (.str s), .p (.int .i64 i)] (.p (resP i (pieceP l))) := by
  refine pureF_of f46_ok fun H => ?_
  have hlen : l.length = s.size - (i + 1) := by rw [← hd, List.length_drop, ba_size]
  (conv => whnf)
  rw [IntWalk.i64_in _ (by omega)]
  cases l with
  | nil =>
    simp only [List.length_nil] at hlen
    refine splitB_t (decide_eq_true (by omega)) ?_
    (conv => whnf)
    exact ⟨rfl, rfl⟩
  | cons c r =>
    simp only [List.length_cons] at hlen
    have hg := (drop_cons hd).1
    refine splitB_f (decide_eq_false (by omega)) ?_
    (conv => whnf)
    rw [IntWalk.i64_in _ (by omega)]
    refine ⟨c, ⟨by omega, by rw [show ((i : Int) + 1).toNat = i + 1 by omega]; exact hg⟩, ?_⟩
    (conv => whnf)
    by_cases h34 : (c.toNat : Int) = 34
    · have hc : c = 34 := u8_of 34 h34 rfl
      refine splitB_t (beq_iff_eq.2 h34) ?_
      (conv => whnf)
      refine splitB_t (beq_iff_eq.2 h34) ?_
      (conv => whnf)
      rw [IntWalk.i64_in _ (by omega)]
      refine ⟨c, ⟨by omega, by rw [show ((i : Int) + 1).toNat = i + 1 by omega]; exact hg⟩, ?_⟩
      (conv => whnf)
      rw [IntWalk.i64_in _ (by omega)]
      have hP : pieceP (c :: r) = .ok [c] 1 := by simp only [pieceP]; rw [if_pos (.inl hc)]
      rw [hP]
      exact ⟨rfl, rfl⟩
    have n34 : c ≠ 34 := u8_ne 34 h34 rfl
    refine splitB_f (beq_eq_false_iff_ne.2 h34) ?_
    (conv => whnf)
    by_cases h92 : (c.toNat : Int) = 92
    · have hc : c = 92 := u8_of 92 h92 rfl
      refine splitB_t (beq_iff_eq.2 h92) ?_
      (conv => whnf)
      rw [IntWalk.i64_in _ (by omega)]
      refine ⟨c, ⟨by omega, by rw [show ((i : Int) + 1).toNat = i + 1 by omega]; exact hg⟩, ?_⟩
      (conv => whnf)
      rw [IntWalk.i64_in _ (by omega)]
      have hP : pieceP (c :: r) = .ok [c] 1 := by simp only [pieceP]; rw [if_pos (.inr hc)]
      rw [hP]
      exact ⟨rfl, rfl⟩
    have n92 : c ≠ 92 := u8_ne 92 h92 rfl
    have n1 : ¬ (c = 34 ∨ c = 92) := fun h => h.elim n34 n92
    refine splitB_f (beq_eq_false_iff_ne.2 h92) ?_
    (conv => whnf)
    refine splitB_eq (fun h110 => ?_) (fun h110 => ?_)
    · (conv => whnf)
      rw [IntWalk.i64_in _ (by omega)]
      have hP : pieceP (c :: r) = .ok [10] 1 := by simp only [pieceP]; rw [if_neg n1, if_pos (u8_of 110 h110 rfl)]
      rw [hP]
      exact ⟨rfl, rfl⟩
    have n110 : c ≠ 110 := u8_ne 110 h110 rfl
    (conv => whnf)
    refine splitB_eq (fun h116 => ?_) (fun h116 => ?_)
    · (conv => whnf)
      rw [IntWalk.i64_in _ (by omega)]
      have hP : pieceP (c :: r) = .ok [9] 1 := by simp only [pieceP]; rw [if_neg n1, if_neg n110, if_pos (u8_of 116 h116 rfl)]
      rw [hP]
      exact ⟨rfl, rfl⟩
    have n116 : c ≠ 116 := u8_ne 116 h116 rfl
    (conv => whnf)
    refine splitB_eq (fun h114 => ?_) (fun h114 => ?_)
    · (conv => whnf)
      rw [IntWalk.i64_in _ (by omega)]
      have hP : pieceP (c :: r) = .ok [13] 1 := by simp only [pieceP]; rw [if_neg n1, if_neg n110, if_neg n116, if_pos (u8_of 114 h114 rfl)]
      rw [hP]
      exact ⟨rfl, rfl⟩
    have n114 : c ≠ 114 := u8_ne 114 h114 rfl
    (conv => whnf)
    refine splitB_eq (fun h10 => ?_) (fun h10 => ?_)
    · have hP : pieceP (c :: r) = .ok [] (1 + whileL spc r) := by simp only [pieceP]; rw [if_neg n1, if_neg n110, if_neg n116, if_neg n114, if_pos (u8_of 10 h10 rfl)]
      rw [hP]
      have hd' := (drop_cons hd).2.1
      (conv => whnf)
      rw [IntWalk.i64_in _ (by omega)]
      intro R hR
      have key : ∀ (rest : List UInt8) (k : Nat), s.data.toList.drop k = rest → k + whileL spc rest = i + 2 + whileL spc r → R [(0, .p (.str s)), (7, .p (.int .i64 k))] H [] := by
        intro rest
        induction rest with
        | nil =>
          intro k hk hq
          have hl := sz_le hk
          simp only [whileL] at hq
          refine hR _ _ _ ?_
          (conv => whnf)
          refine splitB_f (decide_eq_false (by omega)) ?_
          repeat' ((conv => whnf); first | refine splitB_t rfl ?_ | refine splitB_f rfl ?_ | done)
          (conv => whnf)
          rw [show k = i + 1 + (1 + whileL spc r) by omega]
          exact ⟨rfl, rfl⟩
        | cons d rest ih =>
          intro k hk hq
          obtain ⟨hg2, hk', _⟩ := drop_cons hk
          have hl := sz_lt hk
          have goon : spc d = true → R [(0, .p (.str s)), (7, .p (.int .i64 ((k : Int) + 1)))] H [] := fun hb => by
            simp only [whileL] at hq
            rw [if_pos hb] at hq
            exact ih (k + 1) hk' (by omega)
          refine hR _ _ _ ?_
          (conv => whnf)
          refine splitB_t (decide_eq_true (by omega)) ?_
          (conv => whnf)
          refine ⟨d, ⟨by omega, by rw [Int.toNat_natCast]; exact hg2⟩, ?_⟩
          (conv => whnf)
          refine splitB_eq (fun k9 => ?_) (fun k9 => ?_)
          · repeat' ((conv => whnf); first | refine splitB_t rfl ?_ | refine splitB_f rfl ?_ | done)
            (conv => whnf)
            rw [IntWalk.i64_in _ (by omega)]
            exact goon (by rw [u8_of 9 k9 rfl]; rfl)
          (conv => whnf)
          refine ⟨d, ⟨by omega, by rw [Int.toNat_natCast]; exact hg2⟩, ?_⟩
          (conv => whnf)
          refine splitB_eq (fun k13 => ?_) (fun k13 => ?_)
          · repeat' ((conv => whnf); first | refine splitB_t rfl ?_ | refine splitB_f rfl ?_ | done)
            (conv => whnf)
            rw [IntWalk.i64_in _ (by omega)]
            exact goon (by rw [u8_of 13 k13 rfl]; rfl)
          (conv => whnf)
          refine ⟨d, ⟨by omega, by rw [Int.toNat_natCast]; exact hg2⟩, ?_⟩
          (conv => whnf)
          refine splitB_eq (fun k32 => ?_) (fun k32 => ?_)
          · repeat' ((conv => whnf); first | refine splitB_t rfl ?_ | refine splitB_f rfl ?_ | done)
            (conv => whnf)
            rw [IntWalk.i64_in _ (by omega)]
            exact goon (by rw [u8_of 32 k32 rfl]; rfl)
          have hb : spc d = false := by
            unfold spc
            rw [decide_eq_false (u8_ne 32 k32 rfl), decide_eq_false (u8_ne 9 k9 rfl), decide_eq_false (u8_ne 13 k13 rfl)]; rfl
          simp only [whileL] at hq
          rw [if_neg (by rw [hb]; simp)] at hq
          repeat' ((conv => whnf); first | refine splitB_t rfl ?_ | refine splitB_f rfl ?_ | done)
          (conv => whnf)
          rw [show k = i + 1 + (1 + whileL spc r) by omega]
          exact ⟨rfl, rfl⟩
      exact key r (i + 2) hd' rfl
    have n10 : c ≠ 10 := u8_ne 10 h10 rfl
    have hP : pieceP (c :: r) = digF 3 0 (c :: r) := by simp only [pieceP]; rw [if_neg n1, if_neg n110, if_neg n116, if_neg n114, if_neg n10]
    rw [hP]
    generalize hT : digF 3 0 (c :: r) = T
    (conv => whnf)
    intro R hR
    have key : ∀ (m v k : Nat) (rest : List UInt8), s.data.toList.drop (i + k) = rest → k + m = 4 → ((m = 3 ∧ v = 0) ∨ (m = 2 ∧ v ≤ 7) ∨ (m = 1 ∧ v ≤ 63) ∨ (m = 0 ∧ v ≤ 511)) → digF m v rest = T →
        R [(0, .p (.str s)), (1, .p (.int .i64 i)), (8, .p (.int .i64 v)), (9, .p (.int .i64 k))] H [] := by
      intro m
      induction m with
      | zero =>
        intro v k rest hk hm hv hq
        have hv : v ≤ 511 := by omega
        refine hR _ _ _ ?_
        (conv => whnf)
        refine splitB_f (decide_eq_false (by omega)) ?_
        (conv => whnf)
        simp only [digF] at hq
        refine splitB_dec (fun hb => ?_) (fun hb => ?_)
        · rw [if_pos (by omega)] at hq
          rw [← hq]
          (conv => whnf)
          exact ⟨rfl, rfl⟩
        · rw [if_neg (by omega)] at hq
          rw [← hq]
          have hu : (UInt8.ofNat v).toNat = v := by rw [UInt8.toNat_ofNat']; omega
          (conv => whnf)
          rw [IntWalk.i64_in _ (by omega), IntWalk.u8_in _ (by omega)]
          refine ⟨?_, rfl⟩
          show _ = AV.p (PV.tup [PV.list 1 [PV.int .u8 ((UInt8.ofNat v).toNat : Int)], PV.int .i64 ((i + 1 + 3 : Nat) : Int), PV.int .i64 0])
          rw [hu]
          rfl
      | succ m ih =>
        intro v k rest hk hm hv hq
        refine hR _ _ _ ?_
        (conv => whnf)
        refine splitB_t (decide_eq_true (by omega)) ?_
        (conv => whnf)
        rw [IntWalk.i64_in _ (by omega)]
        cases rest with
        | nil =>
          have hl := sz_le hk
          simp only [digF] at hq
          rw [← hq]
          refine splitB_t (decide_eq_true (by omega)) ?_
          (conv => whnf)
          exact ⟨rfl, rfl⟩
        | cons d rest =>
          obtain ⟨hg2, hk', _⟩ := drop_cons hk
          have hl := sz_lt hk
          simp only [digF] at hq
          refine splitB_f (decide_eq_false (by omega)) ?_
          (conv => whnf)
          rw [IntWalk.i64_in _ (by omega)]
          refine ⟨d, ⟨by omega, by rw [show ((i : Int) + (k : Int)).toNat = i + k by omega]; exact hg2⟩, ?_⟩
          (conv => whnf)
          refine CallVC.pureF (octal_spec d) rfl ?_
          (conv => whnf)
          cases ho : oct d with
          | false =>
            rw [if_pos ho] at hq
            rw [← hq]
            refine splitB_t rfl ?_
            (conv => whnf)
            exact ⟨rfl, rfl⟩
          | true =>
            rw [if_neg (by rw [ho]; simp)] at hq
            have ho' := ho
            simp only [oct, Bool.and_eq_true, decide_eq_true_eq] at ho'
            refine splitB_f rfl ?_
            (conv => whnf)
            rw [IntWalk.i64_in _ (by omega)]
            refine ⟨d, ⟨by omega, by rw [show ((i : Int) + (k : Int)).toNat = i + k by omega]; exact hg2⟩, ?_⟩
            (conv => whnf)
            have e1 : IntKind.i64.wrap (IntKind.i64.wrap ((v : Int) * 8) + IntKind.i64.wrap (IntKind.u8.wrap ((d.toNat : Int) - 48))) = ((v * 8 + octV d : Nat) : Int) := by
              have : octV d = d.toNat - 48 := rfl
              rw [IntWalk.u8_in _ (by omega), IntWalk.i64_in ((d.toNat : Int) - 48) (by omega), IntWalk.i64_in ((v : Int) * 8) (by omega), IntWalk.i64_in _ (by omega)]
              omega
            rw [e1, IntWalk.i64_in ((k : Int) + 1) (by omega)]
            have hov : octV d ≤ 7 := by have : octV d = d.toNat - 48 := rfl; omega
            exact ih (v * 8 + octV d) (k + 1) rest hk' (by omega) (by omega) hq
    exact key 3 0 1 (c :: r) hd rfl (.inl ⟨rfl, rfl⟩) hT

end Go.Proofs.Ytkjidklifmcpnaa.AD
