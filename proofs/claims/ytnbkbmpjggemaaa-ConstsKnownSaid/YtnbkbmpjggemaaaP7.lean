/- Chapter 17: as many constants as may be, plainly. -/
import Derived.Test.YtnbkbmpjggemaaaP5
namespace Go.Proofs.Ytnbkbmpjggemaaa.AD
open Go.Proofs
set_option linter.unusedVariables false
set_option linter.unusedSimpArgs false
set_option maxRecDepth 100000

def dg (i : Nat) : List UInt8 := [UInt8.ofNat (48 + i / 100), UInt8.ofNat (48 + i / 10 % 10), UInt8.ofNat (48 + i % 10)]
/-- Constants of these numbers, one behind the other. -/
def pieceL (i : Nat) : List UInt8 := 107 :: (dg i ++ [61, 34, 34, 32])
def piecesL (i : Nat) : Nat → List UInt8
  | 0 => []
  | n + 1 => pieceL i ++ piecesL (i + 1) n
def nmS (i : Nat) : ByteArray := ofL (107 :: dg i)
def pTok (i q : Nat) : Nat → List Tok
  | 0 => []
  | n + 1 => ⟨1, nmS i, q, q + 4⟩ :: ⟨6, ⟨#[61]⟩, q + 4, q + 5⟩ :: ⟨4, ⟨#[]⟩, q + 5, q + 7⟩ :: pTok (i + 1) (q + 8) n
def cnL (i : Nat) : Nat → List Cn
  | 0 => []
  | n + 1 => ⟨nmS i, ⟨#[]⟩⟩ :: cnL (i + 1) n

theorem dig_of {n : Nat} (h : n < 10) : nam (UInt8.ofNat (48 + n)) = true ∧ (UInt8.ofNat (48 + n)).toNat = 48 + n := by
  have : (UInt8.ofNat (48 + n)).toNat = 48 + n := by
    rw [UInt8.toNat_ofNat']; omega
  refine ⟨?_, this⟩
  unfold nam digitB
  rw [this]
  simp
  right
  omega
theorem next_eq (r : List UInt8) : nextP (61 :: 34 :: r) = .tok 6 ⟨#[61]⟩ 1 := by kernel_rfl
theorem next_st (r : List UInt8) : nextP (34 :: 34 :: r) = .tok 4 ⟨#[]⟩ 2 := by kernel_rfl
theorem next_nm {i : Nat} (hi : i < 256) (r : List UInt8) : nextP (107 :: (dg i ++ 61 :: r)) = .tok 1 (nmS i) 4 := by
  have a := (dig_of (n := i / 100) (by omega)).1
  have b := (dig_of (n := i / 10 % 10) (by omega)).1
  have c := (dig_of (n := i % 10) (by omega)).1
  have hw : whileL nam (107 :: (dg i ++ 61 :: r)) = 4 := by
    have k : nam 107 = true := by decide
    have e : nam 61 = false := by decide
    simp only [dg, List.cons_append, List.nil_append, whileL, a, b, c, k, e, if_true]
    rfl
  simp only [nextP]
  rw [if_pos (show lett 107 = true by decide), hw]
  rfl

theorem tokS_skip (r : List UInt8) {q : Nat} {us : List Tok} (h : TokS r (q + 1) us) : TokS (32 :: r) q us := by
  unfold TokS at h ⊢
  have : skipF false (32 :: r) = skipF false r + 1 := by
    show (if (32 : UInt8) = 35 then _ else if _ then skipF false r + 1 else 0) = _
    rw [if_neg (by decide), if_pos (.inl rfl)]
  rw [this, List.drop_succ_cons, show q + (skipF false r + 1) = q + 1 + skipF false r by omega]
  exact h
theorem tokS_tok {c : UInt8} {r r' : List UInt8} {k : Int} {t : ByteArray} {len q : Nat} {us : List Tok} (hN : nextP (c :: r) = .tok k t len) (hd : (c :: r).drop len = r') (h : TokS r' (q + len) us) : TokS (c :: r) q (⟨k, t, q, q + len⟩ :: us) := by
  unfold TokS
  rw [nextP_head hN r]
  exact .cons c r q k t len us hN (by rw [hd]; exact h)

theorem tokS_piece {i : Nat} (hi : i < 256) {r : List UInt8} {q : Nat} {us : List Tok} (h : TokS r (q + 8) us) :
    TokS (pieceL i ++ r) q (⟨1, nmS i, q, q + 4⟩ :: ⟨6, ⟨#[61]⟩, q + 4, q + 5⟩ :: ⟨4, ⟨#[]⟩, q + 5, q + 7⟩ :: us) := by
  have e : pieceL i ++ r = 107 :: (dg i ++ 61 :: (34 :: 34 :: 32 :: r)) := by simp [pieceL]
  rw [e]
  refine tokS_tok (next_nm hi _) (r' := 61 :: 34 :: 34 :: 32 :: r) rfl ?_
  refine tokS_tok (next_eq _) (r' := 34 :: 34 :: 32 :: r) rfl ?_
  refine tokS_tok (next_st _) (r' := 32 :: r) rfl ?_
  refine tokS_skip r ?_
  exact h
theorem tokS_pieces : ∀ (n i q : Nat) (t : List UInt8) (us : List Tok), i + n ≤ 256 → TokS t (q + 8 * n) us → TokS (piecesL i n ++ t) q (pTok i q n ++ us)
  | 0, i, q, t, us, _, h => h
  | n + 1, i, q, t, us, hi, h => by
    have ih := tokS_pieces n (i + 1) (q + 8) t us (by omega) (by rw [show q + 8 + 8 * n = q + 8 * (n + 1) by omega]; exact h)
    simp only [piecesL, pTok, List.append_assoc, List.cons_append]
    exact tokS_piece (by omega) ih

theorem piecesL_len : ∀ (n i : Nat), (piecesL i n).length = 8 * n
  | 0, i => rfl
  | n + 1, i => by simp [piecesL, pieceL, dg, piecesL_len n]; omega
theorem pTok_len : ∀ (n i q : Nat), (pTok i q n).length = 3 * n
  | 0, i, q => rfl
  | n + 1, i, q => by simp [pTok, pTok_len n]; omega
theorem cnL_len : ∀ (n i : Nat), (cnL i n).length = n
  | 0, i => rfl
  | n + 1, i => by simp [cnL, cnL_len n]

theorem nmS_inj {i j : Nat} (hi : i < 256) (hj : j < 256) (h : nmS i = nmS j) : i = j := by
  have h2 := congrArg (fun s : ByteArray => s.data.toList) h
  simp only [nmS, ofL_data, dg, List.cons.injEq] at h2
  obtain ⟨_, a, b, c, _⟩ := h2
  have a' := congrArg UInt8.toNat a
  have b' := congrArg UInt8.toNat b
  have c' := congrArg UInt8.toNat c
  rw [(dig_of (n := i / 100) (by omega)).2, (dig_of (n := j / 100) (by omega)).2] at a'
  rw [(dig_of (n := i / 10 % 10) (by omega)).2, (dig_of (n := j / 10 % 10) (by omega)).2] at b'
  rw [(dig_of (n := i % 10) (by omega)).2, (dig_of (n := j % 10) (by omega)).2] at c'
  omega
theorem nmS_data (i : Nat) : (nmS i).data.toList = 107 :: dg i := ofL_data _
theorem known_cnL {j : Nat} (hj : j < 256) : ∀ (n i : Nat), i + n ≤ j → known (cnL i n) (nmS j) = false
  | 0, i, _ => rfl
  | n + 1, i, h => by
    have := known_cnL hj n (i + 1) (by omega)
    simp only [known, cnL, List.any_cons, Bool.or_eq_false_iff, decide_eq_false_iff_not] at this ⊢
    exact ⟨fun e => by have := nmS_inj (by omega) hj e; omega, this⟩
theorem nameE_new {i q e : Nat} (hi : i < 256) {acc : List Cn} (hk : known acc (nmS i) = false) (hl : acc.length < 256) : nameE ⟨1, nmS i, q, e⟩ acc = 0 := by
  unfold nameE
  have ht : ¬ nmS i = trueS := fun h => by
    have := congrArg (fun s : ByteArray => s.data.toList) h
    simp [nmS_data, trueS] at this
  have hf : ¬ nmS i = falseS := fun h => by
    have := congrArg (fun s : ByteArray => s.data.toList) h
    simp [nmS_data, falseS] at this
  rw [if_neg (by simp [ht, hf]), if_neg (by simp [nmS_data]), if_neg (by simp [hk]), if_neg (by omega)]
theorem cnL_snoc : ∀ (n i : Nat), cnL i (n + 1) = cnL i n ++ [⟨nmS (i + n), ⟨#[]⟩⟩]
  | 0, i => rfl
  | n + 1, i => by
    have := cnL_snoc n (i + 1)
    rw [cnL, this]
    simp [cnL]; congr 1; omega
theorem cG_pieces (N : Nat) (ts : List Tok) : ∀ (n i q : Nat), i + n ≤ 256 → cG N (pTok i q n ++ ts) (cnL 0 i) = cG N ts (cnL 0 (i + n))
  | 0, i, q, _ => rfl
  | n + 1, i, q, h => by
    simp only [pTok, List.cons_append, cG]
    rw [nameE_new (by omega) (known_cnL (by omega) i 0 (by omega)) (by rw [cnL_len]; omega), if_neg (by simp), if_neg (show ¬ ¬ isEq _ from fun h => h ⟨rfl, rfl⟩), if_neg (by simp)]
    have := cG_pieces N ts n (i + 1) (q + 8) (by omega)
    rw [cnL_snoc i 0, Nat.zero_add] at this
    rw [this, show i + 1 + n = i + (n + 1) by omega]

theorem many_ok (s : ByteArray) (hs : s.data.toList = piecesL 0 256) : constR s = .ok (cnL 0 256) := by
  have hl := ba_size s
  rw [hs, piecesL_len] at hl
  have h : tokensR s = .ok (pTok 0 0 256) := tokensR_of (by omega) (by rw [pTok_len]; omega) (by
    have := tokS_pieces 256 0 0 [] [] (by omega) (.nil _)
    rw [List.append_nil, List.append_nil] at this
    rw [hs]; exact this)
  unfold constR
  rw [h]
  have := cG_pieces s.size [] 256 0 0 (by omega)
  rw [List.append_nil] at this
  exact this
theorem many_x (s : ByteArray) (hs : s.data.toList = piecesL 0 256 ++ [120]) : constR s = .err 2048 3 := by
  have hl := ba_size s
  rw [hs, List.length_append, piecesL_len] at hl
  have h : tokensR s = .ok (pTok 0 0 256 ++ [⟨1, ⟨#[120]⟩, 2048, 2049⟩]) := tokensR_of (by simp at hl; omega) (by rw [List.length_append, pTok_len]; simp) (by
    rw [hs]
    refine tokS_pieces 256 0 0 [120] _ (by omega) ?_
    exact tokS_tok (len := 1) (k := 1) (t := ⟨#[120]⟩) (by kernel_rfl) rfl (.nil _))
  unfold constR
  rw [h]
  have := cG_pieces s.size [⟨1, ⟨#[120]⟩, 2048, 2049⟩] 256 0 0 (by omega)
  show cG s.size (pTok 0 0 256 ++ _) (cnL 0 0) = _
  rw [this, Nat.zero_add]
  have hk : ∀ n i, known (cnL i n) ⟨#[120]⟩ = false := by
    intro n
    induction n with
    | zero => intro i; rfl
    | succ n ih =>
      intro i
      have := ih (i + 1)
      simp only [known, cnL, List.any_cons, Bool.or_eq_false_iff, decide_eq_false_iff_not] at this ⊢
      refine ⟨fun e => ?_, this⟩
      have := congrArg (fun s : ByteArray => s.data.toList) e
      simp [nmS_data] at this
  have hE : nameE ⟨1, ⟨#[120]⟩, 2048, 2049⟩ (cnL 0 256) = 3 := by
    unfold nameE
    rw [if_neg (by
      have h1 : ¬ (⟨#[120]⟩ : ByteArray) = trueS := fun h => by have := congrArg (fun s : ByteArray => s.data.toList) h; simp [trueS] at this
      have h2 : ¬ (⟨#[120]⟩ : ByteArray) = falseS := fun h => by have := congrArg (fun s : ByteArray => s.data.toList) h; simp [falseS] at this
      simp [h1, h2]), if_neg (by simp), if_neg (by simp [hk]), if_pos (cnL_len _ _)]
  simp only [cG]
  rw [hE]
  rfl
theorem many_k (s : ByteArray) (hs : s.data.toList = piecesL 0 256 ++ [107, 48, 48, 48]) : constR s = .err 2048 170 := by
  have hl := ba_size s
  rw [hs, List.length_append, piecesL_len] at hl
  have h : tokensR s = .ok (pTok 0 0 256 ++ [⟨1, nmS 0, 2048, 2052⟩]) := tokensR_of (by simp at hl; omega) (by rw [List.length_append, pTok_len]; simp) (by
    rw [hs]
    refine tokS_pieces 256 0 0 [107, 48, 48, 48] _ (by omega) ?_
    exact tokS_tok (len := 4) (k := 1) (t := nmS 0) (by kernel_rfl) rfl (.nil _))
  unfold constR
  rw [h]
  have := cG_pieces s.size [⟨1, nmS 0, 2048, 2052⟩] 256 0 0 (by omega)
  show cG s.size (pTok 0 0 256 ++ _) (cnL 0 0) = _
  rw [this, Nat.zero_add]
  have hk : known (cnL 0 256) (nmS 0) = true := by
    show known (⟨nmS 0, ⟨#[]⟩⟩ :: cnL 1 255) (nmS 0) = true
    simp [known]
  have hE : nameE ⟨1, nmS 0, 2048, 2052⟩ (cnL 0 256) = 170 := by
    unfold nameE
    have h1 : ¬ nmS 0 = trueS := fun h => by have := congrArg (fun s : ByteArray => s.data.toList) h; simp [nmS_data, trueS] at this
    have h2 : ¬ nmS 0 = falseS := fun h => by have := congrArg (fun s : ByteArray => s.data.toList) h; simp [nmS_data, falseS] at this
    rw [if_neg (by simp [h1, h2]), if_neg (by simp [nmS_data]), if_pos hk]
  simp only [cG]
  rw [hE]
  rfl
theorem piecesL_snoc : ∀ (n i : Nat), piecesL i (n + 1) = piecesL i n ++ pieceL (i + n)
  | 0, i => by simp [piecesL]
  | n + 1, i => by
    rw [piecesL, piecesL_snoc n (i + 1)]
    simp only [piecesL, List.append_assoc]
    rw [show i + 1 + n = i + (n + 1) by omega]

end Go.Proofs.Ytnbkbmpjggemaaa.AD
