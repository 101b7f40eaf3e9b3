/- Chapter 22: how long a program's bytes are; may it be written. -/
import Derived.Test.YthmlninecfjjgaaL4
namespace Go.Proofs.Ythmlninecfjjgaa.AD
open Go.Proofs
set_option linter.unusedVariables false
set_option linter.unusedSimpArgs false
set_option maxRecDepth 100000

/-! ### numbers -/
def contP (u : Int) : PV := .int .u8 (IntKind.u8.wrap (BitVec.ofInt 8 (IntKind.u8.wrap u) ||| BitVec.ofInt 8 128).toNat)
def numP : Nat → Int → List PV
  | 0, u => [.int .u8 (IntKind.u8.wrap u)]
  | f + 1, u => if 128 ≤ u then contP u :: numP f (u / 128) else [.int .u8 (IntKind.u8.wrap u)]
def szN : Nat → Int → Int
  | 0, _ => 1
  | f + 1, u => if 128 ≤ u then 1 + szN f (u / 128) else 1
theorem numP_len (f : Nat) : ∀ u, ((numP f u).length : Int) = szN f u := by
  induction f with
  | zero => intro u; rfl
  | succ f ih =>
    intro u
    simp only [numP, szN]
    split
    · have := ih (u / 128); simp; omega
    · rfl
theorem szN_range (f : Nat) : ∀ u, 1 ≤ szN f u ∧ szN f u ≤ f + 1 := by
  induction f with
  | zero => intro u; simp [szN]
  | succ f ih =>
    intro u
    have := ih (u / 128)
    simp only [szN]
    split <;> omega

theorem size_spec (n : Int) (h0 : 0 ≤ n) (h1 : n ≤ 2147483647) : pureF Try.prog 77 [.p (.int .i64 n)] (.p (.int .i64 (szN 5 n))) := by
  refine pureF_of f77_ok fun H => ?_
  (conv => whnf)
  intro R hR
  have key : ∀ (f : Nat) (u k : Int), (0 ≤ u ∧ u ≤ 2147483647) → u < 128 ^ (f + 1) → 1 ≤ k → k + f ≤ 100 → k - 1 + szN f u = szN 5 n → R [(0, .p (.int .i64 u)), (3, .p (.int .i64 k))] H [] := by
    intro f
    induction f with
    | zero =>
      intro u k g0 g1 g2 g3 g4
      have g1 : u < 128 := by simpa using g1
      refine hR _ _ _ ?_
      (conv => whnf)
      refine splitB_f (decide_eq_false (by omega)) ?_
      exact ⟨by rw [← g4]; simp only [szN]; congr 3; omega, rfl⟩
    | succ f ih =>
      intro u k g0 g1 g2 g3 g4
      refine hR _ _ _ ?_
      (conv => whnf)
      refine splitB_dec (fun h => ?_) (fun h => ?_)
      · (conv => whnf)
        refine ⟨by omega, ?_⟩
        (conv => whnf)
        have hq : u.tdiv 128 = u / 128 := Int.tdiv_eq_ediv_of_nonneg g0.1
        have hp : (128 : Int) ^ (f + 1 + 1) = 128 * 128 ^ (f + 1) := by rw [Int.pow_succ, Int.mul_comm]
        have hlt : u / 128 < 128 ^ (f + 1) := by rw [hp] at g1; omega
        rw [hq, IntWalk.i64_in _ (by omega), IntWalk.i64_in _ (by omega)]
        exact ih (u / 128) (k + 1) (by omega) hlt (by omega) (by omega) (by rw [← g4]; simp only [szN]; rw [if_pos (by omega)]; omega)
      · exact ⟨by rw [← g4]; simp only [szN]; rw [if_neg (by omega)]; congr 3; omega, rfl⟩
  have hpow : n < (128 : Int) ^ (5 + 1) := by
    have : (128 : Int) ^ (5 + 1) = 4398046511104 := by decide
    omega
  exact key 5 n 1 ⟨h0, h1⟩ hpow (by omega) (by omega) (by omega)

theorem put_code_spec (n : Int) (h0 : 0 ≤ n) (h1 : n ≤ 2147483647) (g : Nat) (ys : List PV) (hy : ys.length ≤ 35184372088832) :
    MethV Try.prog 96 [.view (.b 0) g 1 ys.length, .p (.int .i64 n)] [.buf g 1 ys] (.view (.b 0) (g + (numP 5 n).length) 1 (ys.length + (numP 5 n).length)) [.buf (g + (numP 5 n).length) 1 (ys ++ numP 5 n)] := by
  refine MethV.of f96_ok fun rest => ?_
  (conv => whnf)
  have hu : IntKind.u32.wrap n = n := by
    have : IntKind.u32.wrap n = n % 4294967296 := by simp [IntKind.wrap, IntKind.bits, IntKind.signed]
    rw [this]
    omega
  rw [hu]
  intro R hR
  have fin : ∀ (u : Int) (zs : List PV), u < 128 → zs ++ [.int .u8 (IntKind.u8.wrap u)] = numP 5 n → zs.length ≤ 5 → R [(0, .view (.b 0) (g + zs.length) 1 (ys.length + zs.length)), (5, .p (.int .u32 u))] ([.buf (g + zs.length) 1 (ys ++ zs)] ++ rest) [] := by
    intro u zs g1 g2 g3
    refine hR _ _ _ ?_
    (conv => whnf)
    refine splitB_f (decide_eq_false (by omega)) ?_
    (conv => whnf)
    refine ⟨rfl, ?_⟩
    (conv => whnf)
    refine ⟨⟨rfl, rfl, rfl, by simp⟩, by simp [room]; omega, ys ++ numP 5 n, by rw [List.take_of_length_le (by simp), List.append_assoc, g2], ?_⟩
    (conv => whnf)
    have hl := congrArg List.length g2
    simp only [List.length_append] at hl
    refine ⟨?_, ?_⟩
    · rw [← hl]; rfl
    · rw [← hl]; rfl
  have key : ∀ (f : Nat) (u : Int) (zs : List PV), 0 ≤ u → u < 128 ^ (f + 1) → zs ++ numP f u = numP 5 n → zs.length + f ≤ 5 → R [(0, .view (.b 0) (g + zs.length) 1 (ys.length + zs.length)), (5, .p (.int .u32 u))] ([.buf (g + zs.length) 1 (ys ++ zs)] ++ rest) [] := by
    intro f
    induction f with
    | zero =>
      intro u zs g0 g1 g2 g3
      exact fin u zs (by simpa using g1) g2 (by omega)
    | succ f ih =>
      intro u zs g0 g1 g2 g3
      have e0 : numP (f + 1) u = if 128 ≤ u then contP u :: numP f (u / 128) else [.int .u8 (IntKind.u8.wrap u)] := rfl
      rw [e0] at g2
      by_cases h : 128 ≤ u
      · rw [if_pos h] at g2
        refine hR _ _ _ ?_
        (conv => whnf)
        refine splitB_t (decide_eq_true (by omega)) ?_
        (conv => whnf)
        refine ⟨rfl, ?_⟩
        (conv => whnf)
        refine ⟨⟨rfl, rfl, rfl, by simp⟩, by simp [room]; omega, ys ++ (zs ++ [contP u]), by rw [List.take_of_length_le (by simp), List.append_assoc]; rfl, ?_⟩
        (conv => whnf)
        refine ⟨by omega, ?_⟩
        (conv => whnf)
        have hp : (128 : Int) ^ (f + 1 + 1) = 128 * 128 ^ (f + 1) := by rw [Int.pow_succ, Int.mul_comm]
        have q := ih (u / 128) (zs ++ [contP u]) (by omega) (by rw [hp] at g1; omega) (by rw [← g2]; simp) (by simp; omega)
        have hs : u.fdiv (2 ^ (min (Int.toNat 7) 32)) = u / 128 := by
          rw [Int.fdiv_eq_ediv_of_nonneg _ (by decide)]
          rfl
        have e1 : (zs ++ [contP u]).length = zs.length + 1 := by simp
        rw [e1] at q
        rw [← hs] at q
        exact q
      · rw [if_neg h] at g2
        exact fin u zs (by omega) g2 (by omega)
  have hpow : n < (128 : Int) ^ (5 + 1) := by
    have : (128 : Int) ^ (5 + 1) = 4398046511104 := by decide
    omega
  have q := key 5 n [] h0 hpow rfl (by simp)
  rw [List.append_nil] at q
  exact q

end Go.Proofs.Ythmlninecfjjgaa.AD
