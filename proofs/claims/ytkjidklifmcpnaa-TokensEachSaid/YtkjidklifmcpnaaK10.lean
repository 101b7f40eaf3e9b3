/- Chapter 14: a token stands by itself, go on. -/
import Derived.Test.YtkjidklifmcpnaaK9
namespace Go.Proofs.Ytkjidklifmcpnaa.AD
open Go.Proofs
set_option linter.unusedVariables false
set_option linter.unusedSimpArgs false
set_option maxRecDepth 100000

theorem digF_app {x : List UInt8} : ∀ (m v : Nat) (l bs : List UInt8) (n : Nat), digF m v l = .ok bs n → digF m v (l ++ x) = .ok bs n
  | 0, v, l, bs, n, h => by simp only [digF] at h ⊢; exact h
  | m + 1, v, [], bs, n, h => by cases h
  | m + 1, v, c :: r, bs, n, h => by
    simp only [List.cons_append, digF] at h ⊢
    split at h
    · cases h
    · rename_i ho
      rw [if_neg ho]
      exact digF_app m _ r bs n h
theorem digF_take : ∀ (m v : Nat) (l bs : List UInt8) (n M : Nat), digF m v l = .ok bs n → m ≤ M → digF m v (l.take M) = .ok bs n
  | 0, v, l, bs, n, M, h, _ => by simp only [digF] at h ⊢; exact h
  | m + 1, v, [], bs, n, M, h, _ => by cases h
  | m + 1, v, c :: r, bs, n, 0, h, hm => by omega
  | m + 1, v, c :: r, bs, n, M + 1, h, hm => by
    simp only [List.take_succ_cons, digF] at h ⊢
    split at h
    · cases h
    · rename_i ho
      rw [if_neg ho]
      exact digF_take m _ r bs n M h (by omega)

theorem pieceP_app {x r bs : List UInt8} {n : Nat} (h : pieceP r = .ok bs n) (hn : n < r.length) : pieceP (r ++ x) = .ok bs n := by
  cases r with
  | nil => cases h
  | cons c r =>
    simp only [List.cons_append, pieceP, List.length_cons] at h hn ⊢
    split at h
    · rename_i k; rw [if_pos k]; exact h
    rename_i k1; rw [if_neg k1]
    split at h
    · rename_i k; rw [if_pos k]; exact h
    rename_i k2; rw [if_neg k2]
    split at h
    · rename_i k; rw [if_pos k]; exact h
    rename_i k3; rw [if_neg k3]
    split at h
    · rename_i k; rw [if_pos k]; exact h
    rename_i k4; rw [if_neg k4]
    split at h
    · rename_i k; rw [if_pos k]
      cases h
      rw [whileL_lt r (by omega)]
    · rename_i k5; rw [if_neg k5]
      exact digF_app 3 0 (c :: r) bs n h
theorem pieceP_take {r bs : List UInt8} {n M : Nat} (h : pieceP r = .ok bs n) (hn : n < M) : pieceP (r.take M) = .ok bs n := by
  cases r with
  | nil => cases h
  | cons c r =>
    obtain ⟨M, rfl⟩ : ∃ k, M = k + 1 := ⟨M - 1, by omega⟩
    simp only [List.take_succ_cons, pieceP] at h ⊢
    split at h
    · rename_i k; rw [if_pos k]; exact h
    rename_i k1; rw [if_neg k1]
    split at h
    · rename_i k; rw [if_pos k]; exact h
    rename_i k2; rw [if_neg k2]
    split at h
    · rename_i k; rw [if_pos k]; exact h
    rename_i k3; rw [if_neg k3]
    split at h
    · rename_i k; rw [if_pos k]; exact h
    rename_i k4; rw [if_neg k4]
    split at h
    · rename_i k; rw [if_pos k]
      cases h
      rw [whileL_take r M (by omega)]
    · rename_i k5; rw [if_neg k5]
      obtain ⟨_, h3⟩ := digF_len 3 0 _ bs n h
      have := digF_take 3 0 (c :: r) bs n (M + 1) h (by omega)
      rwa [List.take_succ_cons] at this

theorem strP_app {x : List UInt8} : ∀ (f : Nat) (l : List UInt8) (i : Nat) (b : List UInt8) (k : Int) (t : ByteArray) (len : Nat), strP f l i b = .tok k t len → strP f (l ++ x) i b = .tok k t len
  | 0, l, i, b, k, t, len, h => by cases h
  | f + 1, [], i, b, k, t, len, h => by cases h
  | f + 1, c :: r, i, b, k, t, len, h => by
    simp only [List.cons_append, strP] at h ⊢
    split at h
    · cases h
    rename_i k1; rw [if_neg k1]
    split at h
    · rename_i k2; rw [if_pos k2]; exact h
    rename_i k2; rw [if_neg k2]
    split at h
    · rename_i k3; rw [if_pos k3]
      split at h
      · rename_i bs n hp
        obtain ⟨p1, p2⟩ := pieceP_len hp
        have hl := strP_len _ _ _ _ _ _ _ h
        rw [List.length_drop] at hl
        rw [pieceP_app hp (by omega)]
        simp only
        rw [List.drop_append_of_le_length p2]
        exact strP_app f _ _ _ k t len h
      · cases h
      · cases h
    · rename_i k3; rw [if_neg k3]
      exact strP_app f r _ _ k t len h
theorem strP_take : ∀ (f : Nat) (l : List UInt8) (i : Nat) (b : List UInt8) (k : Int) (t : ByteArray) (len : Nat), strP f l i b = .tok k t len → strP f (l.take (len - i)) i b = .tok k t len
  | 0, l, i, b, k, t, len, h => by cases h
  | f + 1, [], i, b, k, t, len, h => by cases h
  | f + 1, c :: r, i, b, k, t, len, h => by
    have hl0 := strP_len _ _ _ _ _ _ _ h
    obtain ⟨M, hM⟩ : ∃ m, len - i = m + 1 := ⟨len - i - 1, by omega⟩
    rw [hM, List.take_succ_cons]
    simp only [strP] at h ⊢
    split at h
    · cases h
    rename_i k1; rw [if_neg k1]
    split at h
    · rename_i k2; rw [if_pos k2]; exact h
    rename_i k2; rw [if_neg k2]
    split at h
    · rename_i k3; rw [if_pos k3]
      split at h
      · rename_i bs n hp
        obtain ⟨p1, p2⟩ := pieceP_len hp
        have hl := strP_len _ _ _ _ _ _ _ h
        rw [pieceP_take hp (by omega)]
        simp only
        have q := strP_take f _ _ _ k t len h
        rw [List.drop_take, show M - n = len - (i + 1 + n) by omega]
        exact q
      · cases h
      · cases h
    · rename_i k3; rw [if_neg k3]
      have q := strP_take f r _ _ k t len h
      rw [show M = len - (i + 1) by omega]
      exact q

theorem twos_any {l l' : List UInt8} (h : ∀ p, p ∈ twos → preB p.data.toList l' = preB p.data.toList l) : (twos.any fun p => preB p.data.toList l') = twos.any fun p => preB p.data.toList l := by
  rw [Bool.eq_iff_iff, List.any_eq_true, List.any_eq_true]
  exact ⟨fun ⟨p, h1, h2⟩ => ⟨p, h1, by rw [← h p h1]; exact h2⟩, fun ⟨p, h1, h2⟩ => ⟨p, h1, by rw [h p h1]; exact h2⟩⟩
theorem signL_app {x : List UInt8} (hx : sepH x) (c : UInt8) (r : List UInt8) : signL (c :: r ++ x) = signL (c :: r) := by
  unfold signL
  rw [twos_any fun p hp => preB_app (twos_sep p hp).1 hx (c :: r)]
  rfl
theorem signL_take (c : UInt8) (r : List UInt8) (h : 0 < signL (c :: r)) : signL ((c :: r).take (signL (c :: r))) = signL (c :: r) := by
  generalize hn : signL (c :: r) = n at h
  cases ha : twos.any fun p => preB p.data.toList (c :: r) with
  | true =>
    have : n = 2 := by rw [← hn, signL, ha]; rfl
    subst this
    have h2 : (twos.any fun p => preB p.data.toList ((c :: r).take 2)) = true := by
      rw [twos_any fun p hp => preB_take (by rw [(twos_sep p hp).2]; exact Nat.le_refl _)]
      exact ha
    unfold signL
    rw [h2]; rfl
  | false =>
    have h1 : n = if 0 ≤ Lib.indexByte ones.data.toList c then 1 else 0 := by rw [← hn, signL, ha]; rfl
    have hone : n = 1 := by
      rw [h1] at h ⊢
      split at h
      · rename_i k; rw [if_pos k]
      · omega
    subst hone
    have h2 : (twos.any fun p => preB p.data.toList [c]) = false := by
      rw [List.any_eq_false]
      intro p hp hb
      have := preB_len hb
      rw [(twos_sep p hp).2] at this
      simp at this
    show signL [c] = 1
    unfold signL
    rw [h2]
    exact h1.symm

theorem signL_not (c : UInt8) (r : List UInt8) (h : c = 35 ∨ sepC c) : lett c = false ∧ dig c = false ∧ c ≠ 34 ∧ signL (c :: r) = 0 := by
  have hs : c = 35 ∨ c = 32 ∨ c = 9 ∨ c = 13 ∨ c = 10 := h
  have ht : (twos.any fun p => preB p.data.toList (c :: r)) = false := by
    rw [List.any_eq_false]
    intro p hp hb
    rw [preB, decide_eq_true_eq] at hb
    have hl := (twos_sep p hp).2
    rw [hl] at hb
    simp only [twos, List.mem_cons, List.mem_nil_iff, or_false] at hp
    have hh : p.data.toList.head? = some c := by rw [← hb]; rfl
    rcases hp with rfl | rfl | rfl | rfl | rfl | rfl | rfl | rfl <;> (simp at hh; subst hh; revert hs; decide)
  have h1 : lett c = false ∧ dig c = false ∧ c ≠ 34 := by rcases hs with rfl | rfl | rfl | rfl | rfl <;> decide
  refine ⟨h1.1, h1.2.1, h1.2.2, ?_⟩
  unfold signL
  rw [ht]
  show (if 0 ≤ Lib.indexByte ones.data.toList c then 1 else 0) = 0
  rcases hs with rfl | rfl | rfl | rfl | rfl <;> decide

/-- What begins a token is no blank. -/
theorem nextP_head {c : UInt8} {r : List UInt8} {k : Int} {t : ByteArray} {len : Nat} (h : nextP (c :: r) = .tok k t len) (r' : List UInt8) : skipF false (c :: r') = 0 := by
  by_cases hc : c = 35 ∨ sepC c
  · obtain ⟨h1, h2, h3, h4⟩ := signL_not c r hc
    simp only [nextP] at h
    rw [if_neg (by rw [h1]; simp), if_neg (by rw [h2]; simp), if_neg h3, if_neg (by omega)] at h
    cases h
  · simp only [skipF]
    rw [if_neg (fun e => hc (.inl e))]
    exact if_neg (fun e => hc (.inr e))

theorem nextP_app {x : List UInt8} (hx : sepH x) {c : UInt8} {r : List UInt8} {k : Int} {t : ByteArray} {len : Nat} (h : nextP (c :: r) = .tok k t len) : nextP (c :: r ++ x) = .tok k t len := by
  obtain ⟨_, hlen⟩ := nextP_len c r h
  have hta : ∀ m, m ≤ (c :: r).length → (c :: r ++ x).take m = (c :: r).take m := fun m hm => List.take_append_of_le_length hm
  simp only [List.cons_append] at hta ⊢
  simp only [nextP] at h ⊢
  split at h
  · rename_i k1; rw [if_pos k1]
    cases h
    have hw : whileL nam (c :: (r ++ x)) = whileL nam (c :: r) := whileL_app (p := nam) (x := x) (fun g y e => (sep_nam (hx g y e)).2.2.1) (c :: r)
    rw [hw, hta _ (whileL_le nam (c :: r))]
  rename_i k1; rw [if_neg k1]
  split at h
  · rename_i k2; rw [if_pos k2]
    cases h
    have hw : numL (c :: (r ++ x)) = numL (c :: r) := numL_app hx (c :: r)
    obtain ⟨n1, n2, n3⟩ := numL_len c r k2
    rw [hw, hta _ (by omega)]
  rename_i k2; rw [if_neg k2]
  split at h
  · rename_i k3; rw [if_pos k3]
    have h2 : strP ((r ++ x).length + 1) r 1 [] = .tok k t len := by
      rw [← h]; exact strP_fuel _ _ _ _ _ (by rw [List.length_append]; omega) (by omega)
    exact strP_app _ _ _ _ _ _ _ h2
  rename_i k3; rw [if_neg k3]
  split at h
  · rename_i k4
    cases h
    have hw : signL (c :: (r ++ x)) = signL (c :: r) := signL_app hx c r
    rw [hw, if_pos k4, hta _ (signL_le c r)]
  · cases h

theorem nextP_take {c : UInt8} {r : List UInt8} {k : Int} {t : ByteArray} {len : Nat} (h : nextP (c :: r) = .tok k t len) : nextP ((c :: r).take len) = .tok k t len := by
  obtain ⟨h1, hlen⟩ := nextP_len c r h
  have htt : ∀ m, m ≤ len → ((c :: r).take len).take m = (c :: r).take m := fun m hm => by rw [List.take_take, Nat.min_eq_left hm]
  obtain ⟨M, rfl⟩ : ∃ m, len = m + 1 := ⟨len - 1, by omega⟩
  simp only [List.take_succ_cons] at htt ⊢
  simp only [nextP] at h ⊢
  split at h
  · rename_i k1; rw [if_pos k1]
    have hlen2 : whileL nam (c :: r) = M + 1 := by simp only [NR.tok.injEq] at h; exact h.2.2
    have hw : whileL nam (c :: r.take M) = whileL nam (c :: r) := by
      have := whileL_take (p := nam) (c :: r) (M + 1) (by omega)
      rwa [List.take_succ_cons] at this
    rw [hw]
    rw [← h, htt _ (by omega)]
  rename_i k1; rw [if_neg k1]
  split at h
  · rename_i k2; rw [if_pos k2]
    have hlen2 : (numL (c :: r)).2.2 = M + 1 := by simp only [NR.tok.injEq] at h; exact h.2.2
    have hw : numL (c :: r.take M) = numL (c :: r) := by
      have := numL_take (c :: r)
      rw [hlen2, List.take_succ_cons] at this
      exact this
    obtain ⟨n1, n2, n3⟩ := numL_len c r k2
    rw [hw, ← h, htt _ (by omega)]
  rename_i k2; rw [if_neg k2]
  split at h
  · rename_i k3; rw [if_pos k3]
    have q := strP_take _ _ _ _ _ _ _ h
    rw [Nat.add_sub_cancel] at q
    rw [← q]
    exact strP_fuel _ _ _ _ _ (by omega) (by rw [List.length_take]; omega)
  rename_i k3; rw [if_neg k3]
  split at h
  · rename_i k4
    have hlen2 : signL (c :: r) = M + 1 := by simp only [NR.tok.injEq] at h; exact h.2.2
    have hw : signL (c :: r.take M) = signL (c :: r) := by
      have := signL_take c r k4
      rw [hlen2, List.take_succ_cons] at this
      rw [this, hlen2]
    rw [hw, if_pos k4, ← h, htt _ (by omega)]
  · cases h

end Go.Proofs.Ytkjidklifmcpnaa.AD
