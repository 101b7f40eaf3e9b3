/- Chapter 20: where a byte stands in a text; a text cut in two. -/
import Derived.Test.YtkjidklifmcpnaaT3
import Derived.Lib.Bytealg
import Derived.Laws.Externs
namespace Go.Proofs.Ytkjidklifmcpnaa.AD
open Go.Proofs
set_option linter.unusedVariables false
set_option linter.unusedSimpArgs false
set_option maxRecDepth 100000

theorem ixs_ok (s : ByteArray) (c : UInt8) : XOk Try.prog 52 [.str s, .int .u8 c.toNat] (.int .i64 (Lib.indexByte s.data.toList c)) := by
  refine ⟨fun M w xs hl hx => ⟨.int .i64 (Lib.indexByte s.data.toList c), ?_, .int _ _⟩⟩
  have hl2 : xs.size = 2 := hl
  have h0 := hx 0 xs[0] _ (Array.getElem?_eq_getElem (by omega)) rfl
  have h1 := hx 1 xs[1] _ (Array.getElem?_eq_getElem (by omega)) rfl
  have he : xs = #[.string s, .int .u8 c.toNat] := by
    have e0 : xs[0] = .string s := by generalize xs[0] = x at h0; cases h0; rfl
    have e1 : xs[1] = .int .u8 c.toNat := by generalize xs[1] = x at h1; cases h1; rfl
    apply Array.ext
    · exact hl2
    · intro i h1 h2
      match i, h1, h2 with
      | 0, _, _ => exact e0
      | 1, _, _ => exact e1
  subst he
  rw [run_callFunc_extern Try.func52 (by kernel_rfl) (by kernel_rfl) (by kernel_rfl) (e := Extern.BytealgIndexByte.indexByte) (by kernel_rfl), Lib.run_indexByteString]
  simp [Result.andThen]

theorem IndexByte_spec (s : ByteArray) (c : UInt8) : pureF Try.prog 48 [.p (.str s), .p (.int .u8 c.toNat)] (.p (.int .i64 (Lib.indexByte s.data.toList c))) := by
  refine pureF_of f48_ok fun H => ?_
  (conv => whnf)
  exact ⟨_, ixs_ok s c, rfl, rfl⟩

/-- A text cut where a byte first stands. -/
def cutAt (s : ByteArray) (c : UInt8) : ByteArray × ByteArray × Bool :=
  if 0 ≤ Lib.indexByte s.data.toList c then (s.extract 0 (Lib.indexByte s.data.toList c).toNat, s.extract ((Lib.indexByte s.data.toList c) + 1).toNat s.size, true) else (s, ⟨#[]⟩, false)

theorem indexByte_range (c : UInt8) : ∀ l : List UInt8, -1 ≤ Lib.indexByte l c ∧ Lib.indexByte l c < l.length
  | [] => by simp [Lib.indexByte]
  | b :: l => by
    have := indexByte_range c l
    simp only [Lib.indexByte]
    split
    · simp
    · split
      · simp; omega
      · simp at *; omega

/-! ### a number with a dot -/
def decB (s : ByteArray) : Bool := (cutAt s 46).2.2 && (digitsB (cutAt s 46).1 && digitsB (cutAt s 46).2.1)

theorem indexByte_at (c : UInt8) (l : List UInt8) : ∀ (r : List UInt8) (i : Nat), l.drop i = r → (∀ k, k < i → l[k]? ≠ some c) → Lib.indexByte l c = (if Lib.indexByte r c = -1 then -1 else Lib.indexByte r c + i) := by
  intro r i hd hn
  have main : ∀ (p r : List UInt8), (∀ k, k < p.length → p[k]? ≠ some c) → Lib.indexByte (p ++ r) c = (if Lib.indexByte r c = -1 then -1 else Lib.indexByte r c + p.length) := by
    intro p
    induction p with
    | nil => intro r _; simp
    | cons b p ih =>
      intro r h
      have hb : (b == c) = false := by
        have := h 0 (by simp)
        simpa using this
      have := ih r fun k hk => by have := h (k + 1) (by simp; omega); simpa using this
      have hrange := indexByte_range c r
      simp only [List.cons_append, Lib.indexByte, hb, this]
      by_cases h2 : Lib.indexByte r c = -1
      · simp [h2]
      · rw [if_neg h2]
        simp only [beq_iff_eq, Bool.false_eq_true, if_false, h2, List.length_cons]
        rw [if_neg (by omega)]
        omega
  by_cases hl : i ≤ l.length
  · have := main (l.take i) (l.drop i) fun k hk => by
      rw [List.getElem?_take, if_pos (by simp at hk; omega)]; exact hn k (by simp at hk; omega)
    rw [List.take_append_drop, hd] at this
    rw [this]
    simp [Nat.min_eq_left hl]
  · have hr : r = [] := by rw [← hd]; exact List.drop_eq_nil_iff.2 (by omega)
    have := main l [] fun k hk => hn k (by omega)
    rw [List.append_nil] at this
    rw [this, hr]; rfl

end Go.Proofs.Ytkjidklifmcpnaa.AD
