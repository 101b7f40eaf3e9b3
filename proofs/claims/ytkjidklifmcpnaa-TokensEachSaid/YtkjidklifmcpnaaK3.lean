/- Chapter 14: numbers. -/
import Derived.Test.YtkjidklifmcpnaaK2
namespace Go.Proofs.Ytkjidklifmcpnaa.AD
open Go.Proofs
set_option linter.unusedVariables false
set_option linter.unusedSimpArgs false
set_option maxRecDepth 100000

abbrev dig (c : UInt8) : Bool := digitB c.toNat
abbrev lett (c : UInt8) : Bool := letterB c.toNat
abbrev nam (c : UInt8) : Bool := letterB c.toNat || digitB c.toNat
def tokP (k : Int) (t : ByteArray) (a e : Int) : PV := .agg [.int .u8 k, .str t, .int .i64 a, .int .i64 e]

theorem whileL_le (p : UInt8 → Bool) : ∀ l, whileL p l ≤ l.length
  | [] => Nat.le_refl _
  | c :: r => by
    have := whileL_le p r
    simp only [whileL, List.length_cons]
    split <;> omega

theorem nextFn_spec (n : Int) : pureF Try.prog 41 [.p (.int .u8 n)] (.p (.bool (letterB n || digitB n))) := by
  refine pureF_of f41_ok fun H => ?_
  (conv => whnf)
  refine CallVC.pureF (letter_spec _) rfl ?_
  (conv => whnf)
  refine splitB_intro (fun h => ?_) (fun h => ?_)
  · exact ⟨by rw [h, Bool.true_or], rfl⟩
  · (conv => whnf)
    refine CallVC.pureF (digit_spec _) rfl ?_
    exact ⟨by rw [h, Bool.false_or], rfl⟩

theorem while_at (s : ByteArray) (hs : s.size ≤ 65536) (f : Nat) (hf : enters Try.prog f = true) (p : UInt8 → Bool) (hp : ∀ c : UInt8, pureF Try.prog f [.p (.int .u8 c.toNat)] (.p (.bool (p c)))) (q : Int) (rest lo : List Ob) (i : Nat) (hi : i ≤ s.size) {K : AV → List Ob → List Ob → Prop}
    (k : K (.p (.int .i64 (i + whileL p (s.data.toList.drop i) : Nat))) (scn s q ++ rest) lo) : CallVC Try.prog 28 [.ref (.b 0) 0, .p (.int .i64 i), .p (.fn (.func f))] (scn s q ++ rest) lo K :=
  CallVC.pure (while_spec s (by omega) f hf p hp 0 [.p (.int .i64 q)] _ rfl i hi) k

def ofS : List UInt8 := [45, 111, 102]
/-- What stands behind a number: is it '-of', and no name goes on? -/
def ofB (l : List UInt8) : Bool := preB ofS l && (match l.drop 3 with | [] => true | a :: _ => !lett a && !dig a)
def numL (l : List UInt8) : Int × Nat × Nat :=
  match l.drop (whileL dig l) with
  | c :: d :: _ => if c = 46 ∧ dig d = true then (3, whileL dig l + 1 + whileL dig (l.drop (whileL dig l + 1)), whileL dig l + 1 + whileL dig (l.drop (whileL dig l + 1))) else if ofB (l.drop (whileL dig l)) = true then (5, whileL dig l, whileL dig l + 3) else (2, whileL dig l, whileL dig l)
  | _ => (2, whileL dig l, whileL dig l)

theorem number_spec (s : ByteArray) (hs : s.size ≤ 65536) (p : Nat) (l : List UInt8) (hp : p ≤ s.size) (hd : s.data.toList.drop p = l) :
    Meth Try.prog 42 [.ref (.b 0) 0] (scn s p) (tokP (numL l).1 (ofL (l.take (numL l).2.1)) p (p + (numL l).2.2 : Nat)) (scn s p) := by
  refine Meth.of f42_ok fun rest => ?_
  have hlen : l.length = s.size - p := by rw [← hd, List.length_drop, ba_size]
  have hw := whileL_le dig l
  (conv => whnf)
  refine while_at s hs _ (by kernel_rfl) dig (fun c => digit_spec _) p rest _ p hp ?_
  rw [hd]
  generalize hn : whileL dig l = n at hw
  have hd2 : s.data.toList.drop (p + n) = l.drop n := by rw [← List.drop_drop, hd]
  (conv => whnf)
  refine ⟨⟨by omega, by omega⟩, ?_⟩
  have hext : (s.extract (Int.toNat ((p + n : Nat) : Int)) s.size).data.toList = l.drop n := by rw [ext_tail, Int.toNat_natCast, hd2]
  have hsz : (s.extract (Int.toNat ((p + n : Nat) : Int)) s.size).size = l.length - n := by rw [ba_size, hext, List.length_drop]
  generalize s.extract (Int.toNat ((p + n : Nat) : Int)) s.size = t at hext hsz ⊢
  have cut1 : ∀ e : Nat, p + e ≤ s.size → s.extract (Int.toNat (p : Int)) (Int.toNat ((p + e : Nat) : Int)) = ofL (l.take e) := fun e he => by
    rw [Int.toNat_natCast, Int.toNat_natCast]; exact ext_part s p e hd
  have tailW : ∀ (a : Int × Nat × Nat), a = (if ofB (l.drop n) = true then (5, n, n + 3) else (2, n, n)) → W Try.prog f42.c18 [(0, .ref (.b 0) 0), (2, .ref (.l 0) 0), (3, .p (.int .i64 (p + n : Nat))), (4, .p (.str t))] (scn s p ++ rest) [.cells [.p (.int .u8 0), .p (.str ⟨#[]⟩), .p (.int .i64 0), .p (.int .i64 0)]]
      (endQ f42 fun r' H' => r' = .p (tokP a.1 (ofL (l.take a.2.1)) p (p + a.2.2 : Nat)) ∧ H' = scn s p ++ rest) := by
    intro a ha
    (conv => whnf)
    refine CallVC.pureF (cutPrefix_spec t ⟨#[45, 111, 102]⟩) rfl ?_
    have hcp : cutP t ⟨#[45, 111, 102]⟩ = if preB ofS (l.drop n) then (ofL ((l.drop n).drop 3), true) else (t, false) := by
      rw [cutP, hext]; rfl
    have plain : a = (2, n, n) → W Try.prog f42.c17 [(0, .ref (.b 0) 0), (2, .ref (.l 0) 0), (3, .p (.int .i64 (p + n : Nat)))] (scn s p ++ rest) [.cells [.p (.int .u8 0), .p (.str ⟨#[]⟩), .p (.int .i64 0), .p (.int .i64 0)]]
        (endQ f42 fun r' H' => r' = .p (tokP a.1 (ofL (l.take a.2.1)) p (p + a.2.2 : Nat)) ∧ H' = scn s p ++ rest) := by
      rintro rfl
      (conv => whnf)
      refine ⟨⟨by omega, by omega, by omega⟩, ?_⟩
      (conv => whnf)
      rw [cut1 n (by omega)]
      exact ⟨rfl, rfl⟩
    have isof : a = (5, n, n + 3) → p + n + 3 ≤ s.size → W Try.prog f42.c12 [(0, .ref (.b 0) 0), (2, .ref (.l 0) 0), (3, .p (.int .i64 (p + n : Nat))), (73, .p (.bool true))] (scn s p ++ rest) [.cells [.p (.int .u8 0), .p (.str ⟨#[]⟩), .p (.int .i64 0), .p (.int .i64 0)]]
        (endQ f42 fun r' H' => r' = .p (tokP a.1 (ofL (l.take a.2.1)) p (p + a.2.2 : Nat)) ∧ H' = scn s p ++ rest) := by
      rintro rfl hle
      (conv => whnf)
      refine ⟨⟨by omega, by omega, by omega⟩, ?_⟩
      (conv => whnf)
      rw [cut1 n (by omega), IntWalk.i64_in _ (by omega)]
      exact ⟨rfl, rfl⟩
    rw [hcp]
    cases hb : preB ofS (l.drop n) with
    | false =>
      have ho : ofB (l.drop n) = false := by rw [ofB, hb, Bool.false_and]
      rw [ho] at ha
      (conv => whnf)
      refine splitB_f rfl ?_
      (conv => whnf)
      refine splitB_f rfl ?_
      have q := plain ha
      (conv at q => whnf)
      (conv => whnf)
      exact q
    | true =>
      rw [if_pos rfl]
      have h3 := preB_len hb
      have h3' : 3 ≤ l.length - n := by rw [List.length_drop] at h3; exact h3
      (conv => whnf)
      refine splitB_t rfl ?_
      (conv => whnf)
      cases hm : (l.drop n).drop 3 with
      | nil =>
        have ho : ofB (l.drop n) = true := by rw [ofB, hb, hm]; rfl
        rw [ho] at ha
        refine splitB_t (by rw [beq_iff_eq, ba_ext, ofL_data]) ?_
        (conv => whnf)
        refine splitB_t rfl ?_
        have q := isof ha (by omega)
        (conv at q => whnf)
        (conv => whnf)
        exact q
      | cons c r =>
        refine splitB_f (by rw [beq_eq_false_iff_ne]; intro e; rw [ba_ext, ofL_data] at e; cases e) ?_
        (conv => whnf)
        refine ⟨c, ⟨by omega, by rw [ofL_data]; rfl⟩, ?_⟩
        (conv => whnf)
        refine CallVC.pureF (letter_spec _) rfl ?_
        (conv => whnf)
        cases hlc : letterB c.toNat with
        | true =>
          have ho : ofB (l.drop n) = false := by rw [ofB, hb, hm]; simp [lett, hlc]
          rw [ho] at ha
          refine splitB_f rfl ?_
          (conv => whnf)
          refine splitB_f rfl ?_
          have q := plain ha
          (conv at q => whnf)
          (conv => whnf)
          exact q
        | false =>
          refine splitB_t rfl ?_
          (conv => whnf)
          refine ⟨c, ⟨by omega, by rw [ofL_data]; rfl⟩, ?_⟩
          (conv => whnf)
          refine CallVC.pureF (digit_spec _) rfl ?_
          (conv => whnf)
          cases hdc : digitB c.toNat with
          | true =>
            have ho : ofB (l.drop n) = false := by rw [ofB, hb, hm]; simp [lett, dig, hlc, hdc]
            rw [ho] at ha
            refine splitB_f rfl ?_
            have q := plain ha
            (conv at q => whnf)
            (conv => whnf)
            exact q
          | false =>
            have ho : ofB (l.drop n) = true := by rw [ofB, hb, hm]; simp [lett, dig, hlc, hdc]
            rw [ho] at ha
            refine splitB_t rfl ?_
            have q := isof ha (by omega)
            (conv at q => whnf)
            (conv => whnf)
            exact q
  have hnum : ∀ m, l.drop n = m → numL l = match m with
      | c :: d :: _ => if c = 46 ∧ dig d = true then (3, n + 1 + whileL dig (l.drop (n + 1)), n + 1 + whileL dig (l.drop (n + 1))) else if ofB (l.drop n) = true then (5, n, n + 3) else (2, n, n)
      | _ => (2, n, n) := fun m hm => by
    unfold numL
    rw [hn, hm]
  have short : (l.drop n).length ≤ 1 → ofB (l.drop n) = false := fun h => by
    cases hb : preB ofS (l.drop n) with
    | false => rw [ofB, hb, Bool.false_and]
    | true => have := preB_len hb; have : ofS.length = 3 := rfl; omega
  (conv => whnf)
  cases hm : l.drop n with
  | nil =>
    rw [hm] at short hext
    have hl0 : l.length - n = 0 := by rw [← List.length_drop, hm]; rfl
    refine splitB_f (decide_eq_false (by omega)) ?_
    (conv => whnf)
    refine splitB_f rfl ?_
    (conv => whnf)
    refine splitB_f rfl ?_
    have q := tailW (numL l) (by rw [hnum _ hm, hm, short (by simp)]; rfl)
    (conv at q => whnf)
    (conv => whnf)
    exact q
  | cons c m =>
    cases m with
    | nil =>
      rw [hm] at short hext
      have hl0 : l.length - n = 1 := by rw [← List.length_drop, hm]; rfl
      refine splitB_f (decide_eq_false (by omega)) ?_
      (conv => whnf)
      refine splitB_f rfl ?_
      (conv => whnf)
      refine splitB_f rfl ?_
      have q := tailW (numL l) (by rw [hnum _ hm, hm, short (by simp)]; rfl)
      (conv at q => whnf)
      (conv => whnf)
      exact q
    | cons d m =>
      have hl2 : l.length - n = m.length + 2 := by rw [← List.length_drop, hm]; rfl
      have hnum2 := hnum _ hm
      simp only at hnum2
      refine splitB_t (decide_eq_true (by omega)) ?_
      (conv => whnf)
      refine ⟨c, ⟨by omega, by rw [hext, hm]; rfl⟩, ?_⟩
      (conv => whnf)
      refine splitB_eq (fun h1 => ?_) (fun h1 => ?_)
      · have hc : c = 46 := u8_of 46 h1 rfl
        (conv => whnf)
        refine ⟨d, ⟨by omega, by rw [hext, hm]; rfl⟩, ?_⟩
        (conv => whnf)
        refine CallVC.pureF (digit_spec _) rfl ?_
        (conv => whnf)
        cases hdd : digitB d.toNat with
        | true =>
          rw [if_pos ⟨hc, hdd⟩] at hnum2
          refine splitB_t rfl ?_
          (conv => whnf)
          rw [IntWalk.i64_in _ (by omega)]
          refine while_at s hs _ (by kernel_rfl) dig (fun c => digit_spec _) p rest _ (p + n + 1) (by omega) ?_
          have hd3 : s.data.toList.drop (p + n + 1) = l.drop (n + 1) := by rw [Nat.add_assoc, ← List.drop_drop, hd]
          rw [hd3]
          have hw2 := whileL_le dig (l.drop (n + 1))
          rw [List.length_drop] at hw2
          generalize whileL dig (l.drop (n + 1)) = k at hw2 hnum2 ⊢
          (conv => whnf)
          refine ⟨⟨by omega, by omega, by omega⟩, ?_⟩
          (conv => whnf)
          rw [hnum2, show p + n + 1 + k = p + (n + 1 + k) by omega, cut1 (n + 1 + k) (by omega)]
          exact ⟨rfl, rfl⟩
        | false =>
          rw [if_neg (by rintro ⟨_, h⟩; rw [show dig d = digitB d.toNat from rfl, hdd] at h; cases h)] at hnum2
          refine splitB_f rfl ?_
          have q := tailW (numL l) hnum2
          (conv at q => whnf)
          (conv => whnf)
          exact q
      · have hc : c ≠ 46 := u8_ne 46 h1 rfl
        rw [if_neg (fun h => hc h.1)] at hnum2
        (conv => whnf)
        refine splitB_f rfl ?_
        have q := tailW (numL l) hnum2
        (conv at q => whnf)
        (conv => whnf)
        exact q

end Go.Proofs.Ytkjidklifmcpnaa.AD
