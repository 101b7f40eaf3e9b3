/- Chapter 14: strings, as the scanner reads them. -/
import Derived.Test.YtkjidklifmcpnaaK4
namespace Go.Proofs.Ytkjidklifmcpnaa.AD
open Go.Proofs
set_option linter.unusedVariables false
set_option linter.unusedSimpArgs false
set_option maxRecDepth 100000

theorem or8 (v d : Nat) (hv : v < 512) (hd : d < 8) : IntKind.i64.wrap (BitVec.ofInt IntKind.i64.bits (IntKind.i64.wrap ((v : Int) * 2 ^ (min (Int.toNat 3) IntKind.i64.bits))) ||| BitVec.ofInt IntKind.i64.bits ((d : Nat) : Int)).toNat = ((v * 8 + d : Nat) : Int) := by
  have e1 : ((v : Int) * 2 ^ (min (Int.toNat 3) IntKind.i64.bits)) = ((v * 8 : Nat) : Int) := by
    have : min (Int.toNat 3) IntKind.i64.bits = 3 := by decide
    rw [this]; push_cast; rfl
  rw [e1, IntWalk.i64_in ((v * 8 : Nat) : Int) (by omega)]
  have e2 : (BitVec.ofInt IntKind.i64.bits ((v * 8 : Nat) : Int) ||| BitVec.ofInt IntKind.i64.bits ((d : Nat) : Int)).toNat = v * 8 + d := by
    rw [BitVec.toNat_or]
    simp only [BitVec.ofInt_natCast, BitVec.toNat_ofNat, IntKind.bits]
    rw [Nat.mod_eq_of_lt (by omega), Nat.mod_eq_of_lt (by omega), Nat.mul_comm v]
    have := Nat.two_pow_add_eq_or_of_lt (i := 3) (b := d) (by omega) v
    rw [show (2 : Nat) ^ 3 = 8 by rfl] at this
    exact this.symm
  rw [e2]
  exact IntWalk.i64_in _ (by omega)

theorem wrap8' (u : Int) : IntKind.u8.wrap u = u % 256 := by simp [IntKind.wrap, IntKind.bits, IntKind.signed]
theorem octV_lt {c : UInt8} (h : oct c = true) : 48 ≤ c.toNat ∧ octV c < 8 ∧ IntKind.i64.wrap (IntKind.u8.wrap ((c.toNat : Int) - 48)) = ((octV c : Nat) : Int) := by
  simp only [oct, Bool.and_eq_true, decide_eq_true_eq] at h
  have h1 : octV c = c.toNat - 48 := rfl
  refine ⟨h.1, by omega, ?_⟩
  rw [wrap8', h1, IntWalk.i64_in _ (by omega)]
  omega

def strO (g : Nat) (b : List UInt8) : List Ob := [.cells [.p (.int .u8 0), .p (.str ⟨#[]⟩), .p (.int .i64 0), .p (.int .i64 0)], .buf g 1 (bsP b)]

set_option maxHeartbeats 400000 in
theorem str_spec (s : ByteArray) (hs : s.size ≤ 65536) (p : Nat) (r : List UInt8) (hd : s.data.toList.drop p = 34 :: r) : Meth Try.prog 43 [.ref (.b 0) 0] (scn s p) (resN p (strP (r.length + 1) r 1 [])) (scn s p) := by
  refine Meth.of f43_ok fun rest => ?_
  have hlen : r.length + 1 = s.size - p := by
    have := congrArg List.length hd
    rw [List.length_drop, ← ba_size] at this
    simpa using this.symm
  have hps := sz_lt hd
  generalize hZ : strP (r.length + 1) r 1 [] = Z
  generalize hl : (34 : UInt8) :: r = l at hd
  have hll : l.length = s.size - p := by rw [← hl]; simpa using hlen
  have hdi : ∀ i t, l.drop i = t → s.data.toList.drop (p + i) = t := fun i t h => by rw [← List.drop_drop, hd, h]
  (conv => whnf)
  intro R
  (conv => whnf)
  intro h0
  (conv => whnf)
  intro h1
  (conv => whnf)
  intro h2
  (conv => whnf)
  intro h3
  have key : ∀ (n i g : Nat) (b : List UInt8), l.length - i < n → i ≤ l.length → b.length ≤ i → strP n (l.drop i) i b = Z →
      W Try.prog f43.c103 [(0, .ref (.b 0) 0), (2, .ref (.l 0) 0), (5, .view (.l 1) g 1 b.length), (6, .p (.int .i64 (p + i : Nat)))] (scn s p ++ rest) (strO g b)
        (scopeQ R (endQ f43 fun r' H' => r' = .p (resN p Z) ∧ H' = scn s p ++ rest)) := by
    intro n
    induction n with
    | zero => intro i g b h; omega
    | succ n ih =>
      intro i g b hn hi hb hz
      have plain : ∀ (i' g' : Nat) (b' : List UInt8), i < i' → i' ≤ l.length → b'.length ≤ i' → strP n (l.drop i') i' b' = Z → R 0 [(0, .ref (.b 0) 0), (2, .ref (.l 0) 0), (5, .view (.l 1) g' 1 b'.length), (6, .p (.int .i64 (p + i' : Nat)))] (scn s p ++ rest) (strO g' b') :=
        fun i' g' b' k1 k2 k3 k4 => by
          have q := ih i' g' b' (by omega) k2 k3 k4
          (conv at q => whnf)
          refine h0 _ _ _ ?_
          (conv => whnf)
          exact q
      cases ht : l.drop i with
      | nil =>
        have := drop_nil ht
        rw [ht] at hz
        simp only [strP] at hz
        subst hz
        (conv => whnf)
        refine splitB_t (decide_eq_true (by omega)) ?_
        repeat' ((conv => whnf); first | refine splitB_t rfl ?_ | refine ⟨rfl, ?_⟩ | done)
      | cons c t =>
        obtain ⟨hg, hd', hlt⟩ := drop_cons ht
        have hgs := (drop_cons (hdi i _ ht)).1
        rw [ht] at hz
        have hil : i < l.length := hlt
        have htl : t.length + (i + 1) = l.length := by
          have := congrArg List.length ht
          rw [List.length_drop, List.length_cons] at this
          omega
        (conv => whnf)
        refine splitB_f (decide_eq_false (by omega)) ?_
        (conv => whnf)
        refine ⟨c, ⟨by omega, by rw [Int.toNat_natCast]; exact hgs⟩, ?_⟩
        (conv => whnf)
        refine splitB_eq (fun e10 => ?_) (fun e10 => ?_)
        · have hc : c = 10 := u8_of 10 e10 rfl
          simp only [strP, if_pos hc] at hz
          subst hz
          repeat' ((conv => whnf); first | refine splitB_t rfl ?_ | refine ⟨rfl, ?_⟩ | done)
        have hc10 : c ≠ 10 := u8_ne 10 e10 rfl
        (conv => whnf)
        refine ⟨c, ⟨by omega, by rw [Int.toNat_natCast]; exact hgs⟩, ?_⟩
        (conv => whnf)
        rw [IntWalk.i64_in _ (by omega)]
        refine splitB_eq (fun e34 => ?_) (fun e34 => ?_)
        · have hc : c = 34 := u8_of 34 e34 rfl
          simp only [strP, if_neg hc10, if_pos hc] at hz
          subst hz
          (conv => whnf)
          refine ⟨⟨rfl, rfl, rfl, by simp [bsP]⟩, bsP b, by rw [List.take_of_length_le (by simp [bsP])], b, bsP_bytes b, ?_⟩
          (conv => whnf)
          exact ⟨rfl, rfl⟩
        have hc34 : c ≠ 34 := u8_ne 34 e34 rfl
        (conv => whnf)
        refine splitB_eq (fun e92 => ?_) (fun e92 => ?_)
        · have hc : c = 92 := u8_of 92 e92 rfl
          simp only [strP, if_neg hc10, if_neg hc34, if_pos hc] at hz
          subst hd'
          -- an octal number
          have digW : ∀ (m v : Nat), m ≤ 3 → i + 1 + (3 - m) ≤ l.length → v < 8 ^ (3 - m) → (match digF m v (l.drop (i + 1 + (3 - m))) with
              | .ok bs k => strP n ((l.drop (i + 1)).drop k) (i + 1 + k) (b ++ bs)
              | .cut => .err 0 141
              | .bad => .err i 142) = Z → R 3 [(0, .ref (.b 0) 0), (2, .ref (.l 0) 0), (5, .view (.l 1) g 1 b.length), (6, .p (.int .i64 (p + (i + 1 + (3 - m)) : Nat))), (7, .p (.int .i64 v)), (8, .p (.int .i64 (3 - m : Nat)))] (scn s p ++ rest) (strO g b) := by
            intro m
            induction m with
            | zero =>
              intro v hm hle hv hz
              have hv : v < 512 := hv
              refine h3 _ _ _ ?_
              (conv => whnf)
              refine splitB_t rfl ?_
              (conv => whnf)
              simp only [digF] at hz
              refine splitB_dec (fun hb => ?_) (fun hb => ?_)
              · rw [if_pos (by omega)] at hz
                subst hz
                (conv => whnf)
                rw [IntWalk.i64_in _ (by omega)]
                refine ⟨?_, rfl⟩
                show AV.p (.tup [zeroTok, .int .i64 _, .int .i64 142]) = AV.p (.tup [zeroTok, .int .i64 (p + i : Nat), .int .i64 142])
                rw [show ((p + (i + 1 + (3 - 0)) : Nat) : Int) - 4 = ((p + i : Nat) : Int) by omega]
              · rw [if_neg (by omega)] at hz
                (conv => whnf)
                refine ⟨rfl, ?_⟩
                (conv => whnf)
                rw [wrap8']
                refine ⟨⟨rfl, rfl, rfl, by simp [bsP]⟩, by simp [room]; omega, bsP (b ++ [UInt8.ofNat v]), ?_, ?_⟩
                · rw [List.take_of_length_le (by simp [bsP])]
                  simp only [bsP, List.map_append, List.map_cons, List.map_nil, UInt8.toNat_ofNat']
                  congr 3
                (conv => whnf)
                have hl3 : i + 1 + 3 ≤ l.length := hle
                have q := plain (i + 1 + 3) (g + 1) (b ++ [UInt8.ofNat v]) (by omega) (by omega) (by simp; omega) (by
                  rw [← hz]
                  show _ = strP n ((l.drop (i + 1)).drop 3) (i + 1 + 3) (b ++ [UInt8.ofNat v])
                  rw [List.drop_drop])
                simp only [List.length_append, List.length_cons, List.length_nil] at q
                exact q
            | succ m ihm =>
              intro v hm hle hv hz
              refine h3 _ _ _ ?_
              (conv => whnf)
              refine splitB_f (beq_eq_false_iff_ne.2 (by omega)) ?_
              (conv => whnf)
              cases hu : l.drop (i + 1 + (3 - (m + 1))) with
              | nil =>
                have := drop_nil hu
                rw [hu] at hz
                simp only [digF] at hz
                subst hz
                refine splitB_t (decide_eq_true (by omega)) ?_
                repeat' ((conv => whnf); first | refine splitB_t rfl ?_ | refine ⟨rfl, ?_⟩ | done)
              | cons d u =>
                obtain ⟨_, hu', hult⟩ := drop_cons hu
                have hgu := (drop_cons (hdi _ _ hu)).1
                rw [hu] at hz
                simp only [digF] at hz
                refine splitB_f (decide_eq_false (by omega)) ?_
                (conv => whnf)
                refine ⟨d, ⟨by omega, by rw [Int.toNat_natCast]; exact hgu⟩, ?_⟩
                (conv => whnf)
                have bad : oct d = false → Z = .err i 142 := fun ho => by rw [if_pos ho] at hz; exact hz.symm
                have err : AV.p (.tup [zeroTok, .int .i64 (IntKind.i64.wrap (IntKind.i64.wrap (((p + (i + 1 + (3 - (m + 1))) : Nat) : Int) - ((3 - (m + 1) : Nat) : Int)) - 1)), .int .i64 142]) = AV.p (resN p (.err i 142)) := by
                  rw [IntWalk.i64_in (((p + (i + 1 + (3 - (m + 1))) : Nat) : Int) - ((3 - (m + 1) : Nat) : Int)) (by omega), IntWalk.i64_in _ (by omega)]
                  show _ = AV.p (.tup [zeroTok, .int .i64 (p + i : Nat), .int .i64 142])
                  rw [show ((p + (i + 1 + (3 - (m + 1))) : Nat) : Int) - ((3 - (m + 1) : Nat) : Int) - 1 = ((p + i : Nat) : Int) by omega]
                refine splitB_dec (fun hb => ?_) (fun hb => ?_)
                · (conv => whnf)
                  refine splitB_t rfl ?_
                  rw [bad (by simp only [oct, Bool.and_eq_false_iff, decide_eq_false_iff_not]; omega)]
                  exact ⟨err, rfl⟩
                · (conv => whnf)
                  refine splitB_dec (fun hb2 => ?_) (fun hb2 => ?_)
                  · rw [bad (by simp only [oct, Bool.and_eq_false_iff, decide_eq_false_iff_not]; omega)]
                    exact ⟨err, rfl⟩
                  · have ho : oct d = true := by simp only [oct, Bool.and_eq_true, decide_eq_true_eq]; omega
                    obtain ⟨o1, o2, o3⟩ := octV_lt ho
                    rw [if_neg (by rw [ho]; simp)] at hz
                    have h8 : v < 64 := by
                      have : 8 ^ (3 - (m + 1)) ≤ 8 ^ 2 := Nat.pow_le_pow_right (by decide) (by omega)
                      omega
                    (conv => whnf)
                    refine ⟨by omega, ?_⟩
                    (conv => whnf)
                    rw [o3, or8 v (octV d) (by omega) o2]
                    rw [IntWalk.i64_in (((p + (i + 1 + (3 - (m + 1))) : Nat) : Int) + 1) (by omega), IntWalk.i64_in (((3 - (m + 1) : Nat) : Int) + 1) (by omega)]
                    have q := ihm (v * 8 + octV d) (by omega) (by omega) (by
                      have : 8 ^ (3 - m) = 8 ^ (3 - (m + 1)) * 8 := by rw [← Nat.pow_succ]; congr 1; omega
                      omega) (by
                      rw [show i + 1 + (3 - m) = i + 1 + (3 - (m + 1)) + 1 by omega, hu']
                      exact hz)
                    rw [show ((p + (i + 1 + (3 - m)) : Nat) : Int) = ((p + (i + 1 + (3 - (m + 1))) : Nat) : Int) + 1 by omega, show ((3 - m : Nat) : Int) = ((3 - (m + 1) : Nat) : Int) + 1 by omega] at q
                    exact q
          refine h1 _ _ _ ?_
          (conv => whnf)
          cases hu : l.drop (i + 1) with
          | nil =>
            have := drop_nil hu
            rw [hu] at hz
            simp only [pieceP] at hz
            subst hz
            refine splitB_t (decide_eq_true (by omega)) ?_
            repeat' ((conv => whnf); first | refine splitB_t rfl ?_ | refine ⟨rfl, ?_⟩ | done)
          | cons d u =>
            obtain ⟨_, hu', hult⟩ := drop_cons hu
            have hgu := (drop_cons (hdi _ _ hu)).1
            have hdig : d ≠ 34 → d ≠ 92 → d ≠ 110 → d ≠ 116 → d ≠ 114 → d ≠ 10 → (match digF 3 0 (d :: u) with
              | .ok bs k => strP n ((d :: u).drop k) (i + 1 + k) (b ++ bs)
              | .cut => .err 0 141
              | .bad => .err i 142) = Z := fun n1 n2 n3 n4 n5 n6 => by
              rw [hu] at hz
              have e : pieceP (d :: u) = digF 3 0 (d :: u) := by
                simp only [pieceP]
                rw [if_neg (fun e : d = 34 ∨ d = 92 => e.elim n1 n2), if_neg n3, if_neg n4, if_neg n5, if_neg n6]
              rw [← e]
              exact hz
            have one : ∀ x : UInt8, pieceP (d :: u) = .ok [x] 1 → R 0 [(0, .ref (.b 0) 0), (2, .ref (.l 0) 0), (5, .view (.l 1) (g + 1) 1 (b.length + 1)), (6, .p (.int .i64 (((p + i : Nat) : Int) + 1 + 1)))] (scn s p ++ rest) (strO (g + 1) (b ++ [x])) := fun x hx => by
              have q := plain (i + 1 + 1) (g + 1) (b ++ [x]) (by omega) (by omega) (by simp; omega) (by
                rw [hu, hx] at hz
                rw [← hz, hu']
                show _ = strP n (u.drop 0) (i + 1 + 1) (b ++ [x])
                rfl)
              simp only [List.length_append, List.length_cons, List.length_nil] at q
              exact q
            refine splitB_f (decide_eq_false (by omega)) ?_
            (conv => whnf)
            refine ⟨d, ⟨by omega, by rw [show Int.toNat (((p + i : Nat) : Int) + 1) = p + (i + 1) by omega]; exact hgu⟩, ?_⟩
            (conv => whnf)
            refine splitB_eq (fun f34 => ?_) (fun f34 => ?_)
            · have hc2 : d = 34 := u8_of 34 f34 rfl
              (conv => whnf)
              refine splitB_t (beq_iff_eq.2 f34) ?_
              (conv => whnf)
              rw [IntWalk.i64_in (((p + i : Nat) : Int) + 1 + 1) (by omega)]
              refine ⟨rfl, ?_⟩
              (conv => whnf)
              refine ⟨⟨rfl, rfl, rfl, by simp [bsP]⟩, by simp [room]; omega, bsP (b ++ [d]), by rw [List.take_of_length_le (by simp [bsP])]; simp [bsP], ?_⟩
              (conv => whnf)
              exact one d (by simp [pieceP, hc2])
            have n34 : d ≠ 34 := u8_ne 34 f34 rfl
            (conv => whnf)
            refine splitB_eq (fun f92 => ?_) (fun f92 => ?_)
            · have hc2 : d = 92 := u8_of 92 f92 rfl
              (conv => whnf)
              rw [IntWalk.i64_in (((p + i : Nat) : Int) + 1 + 1) (by omega)]
              refine ⟨rfl, ?_⟩
              (conv => whnf)
              refine ⟨⟨rfl, rfl, rfl, by simp [bsP]⟩, by simp [room]; omega, bsP (b ++ [d]), by rw [List.take_of_length_le (by simp [bsP])]; simp [bsP], ?_⟩
              (conv => whnf)
              exact one d (by simp [pieceP, hc2])
            have n92 : d ≠ 92 := u8_ne 92 f92 rfl
            (conv => whnf)
            refine splitB_eq (fun f110 => ?_) (fun f110 => ?_)
            · have hc2 : d = 110 := u8_of 110 f110 rfl
              (conv => whnf)
              rw [IntWalk.i64_in (((p + i : Nat) : Int) + 1 + 1) (by omega)]
              refine ⟨rfl, ?_⟩
              (conv => whnf)
              refine ⟨⟨rfl, rfl, rfl, by simp [bsP]⟩, by simp [room]; omega, bsP (b ++ [10]), by rw [List.take_of_length_le (by simp [bsP])]; simp [bsP], ?_⟩
              (conv => whnf)
              exact one 10 (by simp [pieceP, hc2])
            have n110 : d ≠ 110 := u8_ne 110 f110 rfl
            (conv => whnf)
            refine splitB_eq (fun f116 => ?_) (fun f116 => ?_)
            · have hc2 : d = 116 := u8_of 116 f116 rfl
              (conv => whnf)
              rw [IntWalk.i64_in (((p + i : Nat) : Int) + 1 + 1) (by omega)]
              refine ⟨rfl, ?_⟩
              (conv => whnf)
              refine ⟨⟨rfl, rfl, rfl, by simp [bsP]⟩, by simp [room]; omega, bsP (b ++ [9]), by rw [List.take_of_length_le (by simp [bsP])]; simp [bsP], ?_⟩
              (conv => whnf)
              exact one 9 (by simp [pieceP, hc2])
            have n116 : d ≠ 116 := u8_ne 116 f116 rfl
            (conv => whnf)
            refine splitB_eq (fun f114 => ?_) (fun f114 => ?_)
            · have hc2 : d = 114 := u8_of 114 f114 rfl
              (conv => whnf)
              rw [IntWalk.i64_in (((p + i : Nat) : Int) + 1 + 1) (by omega)]
              refine ⟨rfl, ?_⟩
              (conv => whnf)
              refine ⟨⟨rfl, rfl, rfl, by simp [bsP]⟩, by simp [room]; omega, bsP (b ++ [13]), by rw [List.take_of_length_le (by simp [bsP])]; simp [bsP], ?_⟩
              (conv => whnf)
              exact one 13 (by simp [pieceP, hc2])
            have n114 : d ≠ 114 := u8_ne 114 f114 rfl
            (conv => whnf)
            refine splitB_eq (fun f10 => ?_) (fun f10 => ?_)
            · have hc2 : d = 10 := u8_of 10 f10 rfl
              have hpc : pieceP (d :: u) = .ok [] (1 + whileL spc u) := by simp [pieceP, hc2]
              rw [hu, hpc] at hz
              have hwl := whileL_le spc u
              have hul : u.length + (i + 1 + 1) = l.length := by
                have := congrArg List.length hu
                rw [List.length_drop, List.length_cons] at this
                omega
              (conv => whnf)
              refine h2 _ _ _ ?_
              (conv => whnf)
              rw [IntWalk.i64_in _ (by omega)]
              intro R2 hR2
              have key2 : ∀ (v : List UInt8) (j : Nat), l.drop j = v → j ≤ l.length → j + whileL spc v = i + 1 + 1 + whileL spc u → R2 [(0, .ref (.b 0) 0), (2, .ref (.l 0) 0), (5, .view (.l 1) g 1 b.length), (6, .p (.int .i64 (p + j : Nat)))] (scn s p ++ rest) (strO g b) := by
                intro v
                induction v with
                | nil =>
                  intro j hj hjl hje
                  have := drop_nil hj
                  refine hR2 _ _ _ ?_
                  (conv => whnf)
                  refine splitB_f (decide_eq_false (by omega)) ?_
                  (conv => whnf)
                  refine splitB_f rfl ?_
                  (conv => whnf)
                  have q := plain (i + 1 + (1 + whileL spc u)) g b (by omega) (by omega) (by omega) (by
                    rw [← hz]
                    show strP n (l.drop (i + 1 + (1 + whileL spc u))) (i + 1 + (1 + whileL spc u)) b = strP n ((d :: u).drop (1 + whileL spc u)) (i + 1 + (1 + whileL spc u)) (b ++ [])
                    rw [List.append_nil, ← hu, List.drop_drop])
                  simp only [whileL] at hje
                  rw [show i + 1 + (1 + whileL spc u) = j by omega] at q
                  exact q
                | cons e v ihv =>
                  intro j hj hjl hje
                  obtain ⟨_, hj', hjlt⟩ := drop_cons hj
                  have hgj := (drop_cons (hdi _ _ hj)).1
                  have stop : spc e = false → R 0 [(0, .ref (.b 0) 0), (2, .ref (.l 0) 0), (5, .view (.l 1) g 1 b.length), (6, .p (.int .i64 (p + j : Nat)))] (scn s p ++ rest) (strO g b) := fun hs0 => by
                    have q := plain (i + 1 + (1 + whileL spc u)) g b (by omega) (by omega) (by omega) (by
                      rw [← hz]
                      show strP n (l.drop (i + 1 + (1 + whileL spc u))) (i + 1 + (1 + whileL spc u)) b = strP n ((d :: u).drop (1 + whileL spc u)) (i + 1 + (1 + whileL spc u)) (b ++ [])
                      rw [List.append_nil, ← hu, List.drop_drop])
                    simp only [whileL, hs0] at hje
                    rw [show i + 1 + (1 + whileL spc u) = j by simp at hje; omega] at q
                    exact q
                  have goon : spc e = true → R2 [(0, .ref (.b 0) 0), (2, .ref (.l 0) 0), (5, .view (.l 1) g 1 b.length), (6, .p (.int .i64 (((p + j : Nat) : Int) + 1)))] (scn s p ++ rest) (strO g b) := fun hs0 => by
                    simp only [whileL, hs0, if_true] at hje
                    exact ihv (j + 1) hj' (by omega) (by omega)
                  refine hR2 _ _ _ ?_
                  (conv => whnf)
                  refine splitB_t (decide_eq_true (by omega)) ?_
                  (conv => whnf)
                  refine ⟨e, ⟨by omega, by rw [Int.toNat_natCast]; exact hgj⟩, ?_⟩
                  (conv => whnf)
                  refine splitB_eq (fun g32 => ?_) (fun g32 => ?_)
                  · have hs0 : spc e = true := by rw [show e = 32 from u8_of 32 g32 rfl]; rfl
                    repeat' ((conv => whnf); first | refine splitB_t rfl ?_ | refine splitB_f rfl ?_ | done)
                    (conv => whnf)
                    rw [IntWalk.i64_in _ (by omega)]
                    exact goon hs0
                  have m32 : e ≠ 32 := u8_ne 32 g32 rfl
                  (conv => whnf)
                  refine ⟨e, ⟨by omega, by rw [Int.toNat_natCast]; exact hgj⟩, ?_⟩
                  (conv => whnf)
                  refine splitB_eq (fun g9 => ?_) (fun g9 => ?_)
                  · have hs0 : spc e = true := by rw [show e = 9 from u8_of 9 g9 rfl]; rfl
                    repeat' ((conv => whnf); first | refine splitB_t rfl ?_ | refine splitB_f rfl ?_ | done)
                    (conv => whnf)
                    rw [IntWalk.i64_in _ (by omega)]
                    exact goon hs0
                  have m9 : e ≠ 9 := u8_ne 9 g9 rfl
                  (conv => whnf)
                  refine ⟨e, ⟨by omega, by rw [Int.toNat_natCast]; exact hgj⟩, ?_⟩
                  (conv => whnf)
                  refine splitB_eq (fun g13 => ?_) (fun g13 => ?_)
                  · have hs0 : spc e = true := by rw [show e = 13 from u8_of 13 g13 rfl]; rfl
                    repeat' ((conv => whnf); first | refine splitB_t rfl ?_ | refine splitB_f rfl ?_ | done)
                    (conv => whnf)
                    rw [IntWalk.i64_in _ (by omega)]
                    exact goon hs0
                  have m13 : e ≠ 13 := u8_ne 13 g13 rfl
                  (conv => whnf)
                  exact stop (by simp [spc, m32, m9, m13])
              exact key2 u (i + 1 + 1) hu' (by omega) rfl
            · have n10 : d ≠ 10 := u8_ne 10 f10 rfl
              have q := digW 3 0 (by omega) (by omega) (by simp) (by
                rw [show i + 1 + (3 - 3) = i + 1 by omega, hu]
                exact hdig n34 n92 n110 n116 n114 n10)
              (conv => whnf)
              exact q
        · have hc92 : c ≠ 92 := u8_ne 92 e92 rfl
          simp only [strP, if_neg hc10, if_neg hc34, if_neg hc92] at hz
          (conv => whnf)
          refine ⟨rfl, ?_⟩
          (conv => whnf)
          refine ⟨⟨rfl, rfl, rfl, by simp [bsP]⟩, by simp [room]; omega, bsP (b ++ [c]), by rw [List.take_of_length_le (by simp [bsP])]; simp [bsP], ?_⟩
          (conv => whnf)
          have q := plain (i + 1) (g + 1) (b ++ [c]) (by omega) (by omega) (by simp; omega) (by rw [hd']; exact hz)
          simp only [List.length_append, List.length_cons, List.length_nil] at q
          exact q
  have q := key (r.length + 1) 1 0 [] (by omega) (by omega) (by simp) (by rw [← hl]; exact hZ)
  (conv at q => whnf)
  (conv => whnf)
  rw [IntWalk.i64_in _ (by omega)]
  exact q

end Go.Proofs.Ytkjidklifmcpnaa.AD
