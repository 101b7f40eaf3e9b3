/- Chapter 14: what Quote writes is read back. -/
import Derived.Test.YtnbkbmpjggemaaaK13
import Derived.Test.YtnbkbmpjggemaaaQ2
namespace Go.Proofs.Ytnbkbmpjggemaaa.AD
open Go.Proofs
set_option linter.unusedVariables false
set_option linter.unusedSimpArgs false
set_option maxRecDepth 100000

/-- The three digits of a byte. -/
def od1 (c : UInt8) : UInt8 := (48 : UInt8) + (c >>> (6 : UInt8))
def od2 (c : UInt8) : UInt8 := (48 : UInt8) + ((c >>> (3 : UInt8)) &&& 7)
def od3 (c : UInt8) : UInt8 := (48 : UInt8) + (c &&& 7)
theorem od_fin : ∀ n : Fin 256, (¬ (od1 (UInt8.ofNat n.1) = 34 ∨ od1 (UInt8.ofNat n.1) = 92) ∧ od1 (UInt8.ofNat n.1) ≠ 110 ∧ od1 (UInt8.ofNat n.1) ≠ 116 ∧ od1 (UInt8.ofNat n.1) ≠ 114 ∧ od1 (UInt8.ofNat n.1) ≠ 10) ∧
    (oct (od1 (UInt8.ofNat n.1)) = true ∧ oct (od2 (UInt8.ofNat n.1)) = true ∧ oct (od3 (UInt8.ofNat n.1)) = true) ∧
    ((0 * 8 + octV (od1 (UInt8.ofNat n.1))) * 8 + octV (od2 (UInt8.ofNat n.1))) * 8 + octV (od3 (UInt8.ofNat n.1)) = n.1 := by decide +kernel
theorem od_of (c : UInt8) : (¬ (od1 c = 34 ∨ od1 c = 92) ∧ od1 c ≠ 110 ∧ od1 c ≠ 116 ∧ od1 c ≠ 114 ∧ od1 c ≠ 10) ∧ (oct (od1 c) = true ∧ oct (od2 c) = true ∧ oct (od3 c) = true) ∧
    ((0 * 8 + octV (od1 c)) * 8 + octV (od2 c)) * 8 + octV (od3 c) = c.toNat := by
  have h := od_fin ⟨c.toNat, c.toNat_lt⟩
  simpa only [UInt8.ofNat_toNat] using h
theorem piece_oct (c : UInt8) (r : List UInt8) : pieceP (od1 c :: od2 c :: od3 c :: r) = .ok [c] 3 := by
  obtain ⟨⟨h1, h2, h3, h4, h5⟩, ⟨h6, h7, h8⟩, h9⟩ := od_of c
  simp only [pieceP]
  rw [if_neg h1, if_neg h2, if_neg h3, if_neg h4, if_neg h5]
  simp only [digF]
  rw [if_neg (by rw [h6]; simp), if_neg (by rw [h7]; simp), if_neg (by rw [h8]; simp), h9, if_neg (by have := c.toNat_lt; omega), UInt8.ofNat_toNat]

theorem strP_byte (c : UInt8) (r : List UInt8) (f i : Nat) (b : List UInt8) (hf : (quoteB c ++ r).length < f) : ∃ f', r.length < f' ∧ strP f (quoteB c ++ r) i b = strP f' r (i + (quoteB c).length) (b ++ [c]) := by
  have esc : ∀ (e : List UInt8) (n : Nat), quoteB c = 92 :: e → e.length = n → pieceP (e ++ r) = .ok [c] n → ∃ f', r.length < f' ∧ strP f (quoteB c ++ r) i b = strP f' r (i + (quoteB c).length) (b ++ [c]) := by
    intro e n he hn hp
    rw [he] at hf ⊢
    simp only [List.cons_append, List.length_cons, List.length_append] at hf ⊢
    obtain ⟨g, rfl⟩ : ∃ g, f = g + 1 := ⟨f - 1, by omega⟩
    refine ⟨g, by omega, ?_⟩
    simp only [strP]
    rw [if_neg (by decide), if_neg (by decide), if_pos (by decide), hp]
    simp only
    rw [← hn, List.drop_left, show i + 1 + e.length = i + (e.length + 1) by omega]
  by_cases h1 : c = 34 ∨ c = 92
  · exact esc [c] 1 (by unfold quoteB; rw [if_pos h1]) rfl (by simp only [List.cons_append, List.nil_append, pieceP]; rw [if_pos h1])
  by_cases h2 : c = 10
  · exact esc [110] 1 (by unfold quoteB; rw [if_neg h1, if_pos h2]) rfl (by rw [h2]; rfl)
  by_cases h3 : c = 9
  · exact esc [116] 1 (by unfold quoteB; rw [if_neg h1, if_neg h2, if_pos h3]) rfl (by rw [h3]; rfl)
  by_cases h4 : c = 13
  · exact esc [114] 1 (by unfold quoteB; rw [if_neg h1, if_neg h2, if_neg h3, if_pos h4]) rfl (by rw [h4]; rfl)
  by_cases h5 : c < 32 ∨ 126 < c
  · exact esc [od1 c, od2 c, od3 c] 3 (by unfold quoteB; rw [if_neg h1, if_neg h2, if_neg h3, if_neg h4, if_pos h5]; rfl) rfl (piece_oct c r)
  · have he : quoteB c = [c] := by unfold quoteB; rw [if_neg h1, if_neg h2, if_neg h3, if_neg h4, if_neg h5]
    rw [he] at hf ⊢
    simp only [List.cons_append, List.nil_append, List.length_cons, List.length_nil] at hf ⊢
    obtain ⟨g, rfl⟩ : ∃ g, f = g + 1 := ⟨f - 1, by omega⟩
    refine ⟨g, by omega, ?_⟩
    simp only [strP]
    rw [if_neg h2, if_neg (fun e => h1 (.inl e)), if_neg (fun e => h1 (.inr e))]
theorem strP_quote (x : List UInt8) : ∀ (l : List UInt8) (f i : Nat) (b : List UInt8), (l.flatMap quoteB ++ 34 :: x).length < f → strP f (l.flatMap quoteB ++ 34 :: x) i b = .tok 4 (ofL (b ++ l)) (i + (l.flatMap quoteB).length + 1)
  | [], f, i, b, hf => by
    obtain ⟨g, rfl⟩ : ∃ g, f = g + 1 := ⟨f - 1, by omega⟩
    simp only [List.flatMap_nil, List.nil_append, strP]
    rw [if_neg (by decide), if_pos (by decide), List.append_nil]
    rfl
  | c :: r, f, i, b, hf => by
    rw [List.flatMap_cons, List.append_assoc] at hf ⊢
    obtain ⟨f', h1, h2⟩ := strP_byte c (r.flatMap quoteB ++ 34 :: x) f i b hf
    rw [h2, strP_quote x r f' _ _ h1, List.append_assoc]
    simp only [List.length_append, List.cons_append, List.nil_append]
    congr 1
    omega
theorem quoteL_len (l : List UInt8) : (quoteL l).length = (l.flatMap quoteB).length + 2 := by simp [quoteL]
theorem nextP_quote (l x : List UInt8) : nextP (quoteL l ++ x) = .tok 4 (ofL l) (quoteL l).length := by
  have e : quoteL l ++ x = 34 :: (l.flatMap quoteB ++ 34 :: x) := by simp [quoteL]
  rw [e]
  simp only [nextP]
  rw [if_neg (by decide), if_neg (by decide), if_pos trivial, strP_quote x l _ 1 [] (by omega), quoteL_len]
  simp only [List.nil_append]
  congr 1
  omega

theorem nam_all : ∀ l : List UInt8, (l.all fun c => letterB c.toNat || digitB c.toNat) = true → whileL nam l = l.length
  | [], _ => rfl
  | d :: r, h => by
    rw [List.all_cons, Bool.and_eq_true] at h
    simp only [whileL]
    rw [if_pos h.1, nam_all r h.2]; simp only [List.length_cons]
/-- A name, where no name's byte stands behind it. -/
theorem nextP_nameB {n : ByteArray} (hn : nameB n = true) {x : List UInt8} (hx : ∀ h y, x = h :: y → nam h = false) : ∃ c w, n.data.toList = c :: w ∧ nextP (c :: (w ++ x)) = .tok 1 n (c :: w).length := by
  unfold nameB at hn
  cases hl : n.data.toList with
  | nil => rw [hl] at hn; cases hn
  | cons c w =>
    rw [hl] at hn
    simp only [Bool.and_eq_true] at hn
    refine ⟨c, w, rfl, ?_⟩
    have hw : whileL nam (c :: w) = (c :: w).length := nam_all _ (by rw [List.all_cons, hn.1, Bool.true_or, hn.2]; rfl)
    have hw2 : whileL nam (c :: (w ++ x)) = (c :: w).length := by
      rw [← List.cons_append, whileL_app (p := nam) hx, hw]
    simp only [nextP]
    rw [if_pos (show lett c = true from hn.1), hw2, ← List.cons_append, List.take_left, ← hl, ofL_of]

/-- One token and no more. -/
theorem tokensR_one {s : ByteArray} {c : UInt8} {r : List UInt8} {k : Int} {t : ByteArray} (hl : s.data.toList = c :: r) (hs : s.size ≤ 65536) (h : nextP (c :: r) = .tok k t (c :: r).length) : tokensR s = .ok [⟨k, t, 0, s.size⟩] := by
  refine tokensR_of hs (by simp) ?_
  rw [hl]
  unfold TokS
  have h0 := nextP_head h r
  rw [h0]
  have hd : (c :: r).drop (c :: r).length = [] := List.drop_length ..
  have q := Toks.cons c r (0 + 0) k t (c :: r).length [] h (by rw [hd]; exact .nil _)
  have e : s.size = (c :: r).length := by rw [ba_size, hl]
  rw [e]
  rw [Nat.zero_add] at q ⊢
  simpa using q
theorem tokens_quote (s : ByteArray) (hs : s.size ≤ 16000) : tokensR ⟨(quoteL s.data.toList).toArray⟩ = .ok [⟨4, s, 0, (⟨(quoteL s.data.toList).toArray⟩ : ByteArray).size⟩] := by
  have hl := quoteBs_len s.data.toList
  rw [← ba_size] at hl
  have hd : (⟨(quoteL s.data.toList).toArray⟩ : ByteArray).data.toList = 34 :: (s.data.toList.flatMap quoteB ++ [34]) := by simp [quoteL]
  have h := nextP_quote s.data.toList []
  rw [List.append_nil, ofL_of] at h
  refine tokensR_one hd ?_ h
  rw [ba_size, hd]
  simp only [List.length_cons, List.length_append, List.length_nil]
  omega
theorem tokens_name (s : ByteArray) (hn : nameB s = true) (hs : s.size ≤ 65536) : tokensR s = .ok [⟨1, s, 0, s.size⟩] := by
  obtain ⟨c, w, hl, h⟩ := nextP_nameB hn (x := []) (fun h y e => by cases e)
  rw [List.append_nil] at h
  exact tokensR_one hl hs h

end Go.Proofs.Ytnbkbmpjggemaaa.AD
