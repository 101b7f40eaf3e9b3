/- Chapter 14: all tokens. -/
import Derived.Test.YtkjidklifmcpnaaK6
namespace Go.Proofs.Ytkjidklifmcpnaa.AD
open Go.Proofs
set_option linter.unusedVariables false
set_option linter.unusedSimpArgs false
set_option maxRecDepth 100000

theorem digF_len : ∀ (m v : Nat) (l : List UInt8) (bs : List UInt8) (n : Nat), digF m v l = .ok bs n → m ≤ l.length ∧ n = 3
  | 0, v, l, bs, n, h => by
    simp only [digF] at h
    split at h
    · cases h
    · cases h; exact ⟨by omega, rfl⟩
  | m + 1, v, [], bs, n, h => by cases h
  | m + 1, v, c :: r, bs, n, h => by
    simp only [digF] at h
    split at h
    · cases h
    · obtain ⟨h1, h2⟩ := digF_len m _ r bs n h
      exact ⟨by simpa using h1, h2⟩
theorem pieceP_len {l bs : List UInt8} {n : Nat} (h : pieceP l = .ok bs n) : 1 ≤ n ∧ n ≤ l.length := by
  cases l with
  | nil => cases h
  | cons c r =>
    simp only [pieceP] at h
    have hw := whileL_le spc r
    simp only [List.length_cons]
    split at h
    · cases h; omega
    split at h
    · cases h; omega
    split at h
    · cases h; omega
    split at h
    · cases h; omega
    split at h
    · cases h; omega
    · obtain ⟨h1, rfl⟩ := digF_len 3 0 _ bs n h
      simp only [List.length_cons] at h1
      omega
theorem strP_len : ∀ (f : Nat) (l : List UInt8) (i : Nat) (b : List UInt8) (k : Int) (t : ByteArray) (len : Nat), strP f l i b = .tok k t len → i < len ∧ len ≤ i + l.length
  | 0, l, i, b, k, t, len, h => by cases h
  | f + 1, [], i, b, k, t, len, h => by cases h
  | f + 1, c :: r, i, b, k, t, len, h => by
    simp only [strP] at h
    simp only [List.length_cons]
    split at h
    · cases h
    split at h
    · cases h; omega
    split at h
    · split at h
      · rename_i bs n hp
        obtain ⟨p1, p2⟩ := pieceP_len hp
        obtain ⟨h1, h2⟩ := strP_len f _ _ _ k t len h
        rw [List.length_drop] at h2
        omega
      · cases h
      · cases h
    · obtain ⟨h1, h2⟩ := strP_len f r _ _ k t len h
      omega
theorem strP_err : ∀ (f : Nat) (l : List UInt8) (i : Nat) (b : List UInt8) (o : Nat) (e : Int), strP f l i b = .err o e → (e = 141 ∨ e = 142) ∧ (o = 0 ∨ (i ≤ o ∧ o < i + l.length))
  | 0, l, i, b, o, e, h => by cases h; exact ⟨.inl rfl, .inl rfl⟩
  | f + 1, [], i, b, o, e, h => by cases h; exact ⟨.inl rfl, .inl rfl⟩
  | f + 1, c :: r, i, b, o, e, h => by
    simp only [strP] at h
    simp only [List.length_cons]
    split at h
    · cases h; exact ⟨.inl rfl, .inl rfl⟩
    split at h
    · cases h
    split at h
    · split at h
      · rename_i bs n hp
        obtain ⟨p1, p2⟩ := pieceP_len hp
        obtain ⟨h1, h2⟩ := strP_err f _ _ _ o e h
        rw [List.length_drop] at h2
        exact ⟨h1, by omega⟩
      · cases h; exact ⟨.inl rfl, .inl rfl⟩
      · cases h; exact ⟨.inr rfl, .inr (by omega)⟩
    · obtain ⟨h1, h2⟩ := strP_err f r _ _ o e h
      exact ⟨h1, by omega⟩

theorem numL_len (c : UInt8) (r : List UInt8) (h : dig c = true) : 1 ≤ (numL (c :: r)).2.1 ∧ (numL (c :: r)).2.1 ≤ (numL (c :: r)).2.2 ∧ (numL (c :: r)).2.2 ≤ (c :: r).length := by
  have h1 : 1 ≤ whileL dig (c :: r) := by simp only [whileL, h, if_true]; omega
  have hw := whileL_le dig (c :: r)
  unfold numL
  generalize whileL dig (c :: r) = n at h1 hw ⊢
  have hw2 := whileL_le dig ((c :: r).drop (n + 1))
  rw [List.length_drop] at hw2
  split
  · rename_i a b m hm
    have hl : ((c :: r).drop n).length = m.length + 2 := by rw [hm]; rfl
    rw [List.length_drop] at hl
    split
    · simp only; omega
    · split
      · rename_i ho
        have hp : preB ofS ((c :: r).drop n) = true := by
          cases hb : preB ofS ((c :: r).drop n) with
          | true => rfl
          | false => rw [ofB, hb] at ho; cases ho
        have := preB_len hp
        rw [List.length_drop] at this
        have h3 : ofS.length = 3 := rfl
        simp only; omega
      · simp only; omega
  · simp only; omega

theorem nextP_len (c : UInt8) (r : List UInt8) {k : Int} {t : ByteArray} {len : Nat} (h : nextP (c :: r) = .tok k t len) : 1 ≤ len ∧ len ≤ (c :: r).length := by
  simp only [nextP] at h
  split at h
  · rename_i hl
    cases h
    have h1 : nam c = true := by simp only [nam]; rw [show letterB c.toNat = lett c from rfl, hl]; rfl
    have hw := whileL_le nam (c :: r)
    have : 1 ≤ whileL nam (c :: r) := by simp only [whileL, h1, if_true]; omega
    exact ⟨this, hw⟩
  split at h
  · rename_i hl
    cases h
    obtain ⟨h1, h2, h3⟩ := numL_len c r hl
    exact ⟨by omega, h3⟩
  split at h
  · obtain ⟨h1, h2⟩ := strP_len _ _ _ _ _ _ _ h
    simp only [List.length_cons]; omega
  split at h
  · cases h
    exact ⟨by omega, signL_le c r⟩
  · cases h
theorem nextP_err (c : UInt8) (r : List UInt8) {o : Nat} {e : Int} (h : nextP (c :: r) = .err o e) : (e = 140 ∨ e = 141 ∨ e = 142) ∧ o ≤ r.length := by
  simp only [nextP] at h
  split at h
  · cases h
  split at h
  · cases h
  split at h
  · obtain ⟨h1, h2⟩ := strP_err _ _ _ _ _ _ h
    exact ⟨by omega, by omega⟩
  split at h
  · cases h
  · cases h; exact ⟨.inl rfl, by omega⟩

structure Tok where
  k : Int
  t : ByteArray
  a : Nat
  e : Nat
def tkP (x : Tok) : PV := tokP x.k x.t x.a x.e
inductive TR where
  | ok (l : List Tok)
  | err (p : Nat) (e : Int)
/-- Behind blanks. -/
def tokG : Nat → List UInt8 → Nat → List Tok → TR
  | 0, _, _, _ => .err 0 0
  | f + 1, [], q, acc => .ok acc
  | f + 1, c :: r, q, acc => if acc.length = 8192 then .err q 3 else match nextP (c :: r) with
    | .err o e => .err (q + o) e
    | .tok k t len => tokG f (((c :: r).drop len).drop (skipF false ((c :: r).drop len))) (q + len + skipF false ((c :: r).drop len)) (acc ++ [⟨k, t, q, q + len⟩])
def tokensR (s : ByteArray) : TR := if 65536 < s.size then .err 0 3 else tokG (s.size + 1) (s.data.toList.drop (skipF false s.data.toList)) (skipF false s.data.toList) []
def resT : TR → PV
  | .ok l => .tup [.list 4 (l.map tkP), .int .i64 0, .int .i64 0]
  | .err p e => .tup [.nils, .int .i64 p, .int .i64 e]

theorem tkP_flat (l : List Tok) : ∀ e, e ∈ l.map tkP → Flat e := fun e he => by
  obtain ⟨x, _, rfl⟩ := List.mem_map.1 he
  exact .agg _ fun c hc => by
    simp only [List.mem_cons, List.mem_nil_iff, or_false] at hc
    rcases hc with rfl | rfl | rfl | rfl
    · exact .int _ _
    · exact .str _
    · exact .int _ _
    · exact .int _ _

end Go.Proofs.Ytkjidklifmcpnaa.AD
