/- Chapter 14: a token stands by itself. -/
import Derived.Test.YtkjidklifmcpnaaK8
namespace Go.Proofs.Ytkjidklifmcpnaa.AD
open Go.Proofs
set_option linter.unusedVariables false
set_option linter.unusedSimpArgs false
set_option maxRecDepth 100000

def sepC (h : UInt8) : Prop := h = 32 ∨ h = 9 ∨ h = 13 ∨ h = 10
/-- Nothing, or what begins with a blank. -/
def sepH (x : List UInt8) : Prop := ∀ h y, x = h :: y → sepC h

theorem sep_nam {h : UInt8} (k : sepC h) : lett h = false ∧ dig h = false ∧ nam h = false ∧ h ≠ 46 ∧ h ≠ 45 := by
  rcases k with rfl | rfl | rfl | rfl <;> decide

theorem whileL_app {p : UInt8 → Bool} {x : List UInt8} (hx : ∀ h y, x = h :: y → p h = false) : ∀ l : List UInt8, whileL p (l ++ x) = whileL p l
  | [] => by
    cases x with
    | nil => rfl
    | cons h y => simp only [List.nil_append, whileL, hx h y rfl]; rfl
  | c :: r => by simp only [List.cons_append, whileL, whileL_app hx r]
theorem whileL_lt {p : UInt8 → Bool} {x : List UInt8} : ∀ l : List UInt8, whileL p l < l.length → whileL p (l ++ x) = whileL p l
  | [], h => by simp at h
  | c :: r, h => by
    simp only [List.cons_append, whileL] at h ⊢
    split
    · rename_i hc
      rw [if_pos hc, List.length_cons] at h
      rw [whileL_lt r (by omega)]
    · rfl
theorem whileL_take {p : UInt8 → Bool} : ∀ (l : List UInt8) (m : Nat), whileL p l ≤ m → whileL p (l.take m) = whileL p l
  | [], m, _ => by simp
  | c :: r, 0, h => by
    simp only [whileL] at h ⊢
    split at h
    · omega
    · rename_i hc; simp [whileL, hc]
  | c :: r, m + 1, h => by
    simp only [List.take_succ_cons, whileL] at h ⊢
    split
    · rename_i hc
      rw [if_pos hc] at h
      rw [whileL_take r m (by omega)]
    · rfl

theorem preB_app {p : List UInt8} (hp : ∀ c, c ∈ p → ¬ sepC c) {x : List UInt8} (hx : sepH x) (l : List UInt8) : preB p (l ++ x) = preB p l := by
  rcases Nat.lt_or_ge l.length p.length with h | h
  · have h1 : preB p l = false := by
      cases hb : preB p l with
      | false => rfl
      | true => have := preB_len hb; omega
    rw [h1]
    cases hb : preB p (l ++ x) with
    | false => rfl
    | true =>
      exfalso
      have hl := preB_len hb
      cases x with
      | nil => simp at hl; omega
      | cons g y =>
        rw [preB, decide_eq_true_eq] at hb
        have h2 : p[l.length]? = some g := by
          rw [← hb, List.getElem?_take, if_pos h, List.getElem?_append_right (Nat.le_refl _)]
          simp
        exact hp g (List.mem_of_getElem? h2) (hx g y rfl)
  · unfold preB
    rw [List.take_append_of_le_length h]
theorem preB_take {p : List UInt8} {l : List UInt8} {m : Nat} (h : p.length ≤ m) : preB p (l.take m) = preB p l := by
  unfold preB
  rw [List.take_take, Nat.min_eq_left h]

theorem ofS_sep : ∀ c, c ∈ ofS → ¬ sepC c := by
  intro c hc
  simp only [ofS, List.mem_cons, List.mem_nil_iff, or_false] at hc
  rcases hc with rfl | rfl | rfl <;> (unfold sepC; decide)
theorem twos_sep : ∀ p, p ∈ twos → (∀ c, c ∈ p.data.toList → ¬ sepC c) ∧ p.data.toList.length = 2 := by
  intro p hp
  simp only [twos, List.mem_cons, List.mem_nil_iff, or_false] at hp
  have h2 : ∀ a b : UInt8, ¬ sepC a → ¬ sepC b → (∀ c, c ∈ ([a, b] : List UInt8) → ¬ sepC c) := fun a b ha hb c hc => by
    simp only [List.mem_cons, List.mem_nil_iff, or_false] at hc
    rcases hc with rfl | rfl
    · exact ha
    · exact hb
  rcases hp with rfl | rfl | rfl | rfl | rfl | rfl | rfl | rfl <;> exact ⟨h2 _ _ (by unfold sepC; decide) (by unfold sepC; decide), rfl⟩

theorem ofB_app {x : List UInt8} (hx : sepH x) (m : List UInt8) : ofB (m ++ x) = ofB m := by
  unfold ofB
  rw [preB_app ofS_sep hx]
  cases hb : preB ofS m with
  | false => rfl
  | true =>
    have hl := preB_len hb
    have h3 : ofS.length = 3 := rfl
    rw [List.drop_append_of_le_length (by omega)]
    cases hm : m.drop 3 with
    | nil =>
      rw [List.nil_append]
      cases x with
      | nil => rfl
      | cons h y =>
        obtain ⟨k1, k2, _⟩ := sep_nam (hx h y rfl)
        simp [k1, k2]
    | cons a r => rfl

theorem numL_app {x : List UInt8} (hx : sepH x) (l : List UInt8) : numL (l ++ x) = numL l := by
  have hw : ∀ l, whileL dig (l ++ x) = whileL dig l := fun l => whileL_app (fun h y e => (sep_nam (hx h y e)).2.1) l
  have hle := whileL_le dig l
  unfold numL
  rw [hw l]
  generalize whileL dig l = n at hle ⊢
  rw [List.drop_append_of_le_length hle]
  cases hm : l.drop n with
  | nil =>
    rw [List.nil_append]
    cases x with
    | nil => rfl
    | cons h y =>
      cases y with
      | nil => rfl
      | cons d m =>
        have k := (sep_nam (hx h _ rfl)).2.2.2.1
        simp only
        rw [if_neg (fun e => k e.1)]
        have : ofB (h :: d :: m) = false := by
          have := ofB_app hx []
          rw [List.nil_append] at this
          rw [this]; rfl
        exact if_neg (by rw [this]; simp)
  | cons c m1 =>
    cases m1 with
    | nil =>
      cases x with
      | nil => rfl
      | cons h y =>
        have k := (sep_nam (hx h _ rfl)).2.1
        simp only [List.cons_append, List.nil_append]
        rw [if_neg (fun e => by rw [k] at e; cases e.2)]
        have : ofB (c :: h :: y) = false := by
          have := ofB_app hx [c]
          rw [List.cons_append, List.nil_append] at this
          rw [this]
          cases hb : preB ofS [c] with
          | false => rw [ofB, hb]; rfl
          | true => have := preB_len hb; simp [ofS] at this
        exact if_neg (by rw [this]; simp)
    | cons d m =>
      have hn1 : n + 1 ≤ l.length := by
        have := congrArg List.length hm
        rw [List.length_drop] at this
        simp only [List.length_cons] at this
        omega
      simp only [List.cons_append]
      have ho : ofB (c :: d :: (m ++ x)) = ofB (c :: d :: m) := ofB_app hx (c :: d :: m)
      rw [List.drop_append_of_le_length hn1, hw]
      simp only [ho]

theorem numL_take (l : List UInt8) : numL (l.take (numL l).2.2) = numL l := by
  have hle := whileL_le dig l
  generalize hn : whileL dig l = n at hle
  have ht : ∀ m, n ≤ m → whileL dig (l.take m) = n := fun m h => by rw [whileL_take l m (by omega), hn]
  have plain : numL l = (2, n, n) → numL (l.take n) = (2, n, n) := fun _ => by
    unfold numL
    rw [ht n (Nat.le_refl _), List.drop_take, Nat.sub_self, List.take_zero]
  have hdef : numL l = match l.drop n with
      | c :: d :: _ => if c = 46 ∧ dig d = true then (3, n + 1 + whileL dig (l.drop (n + 1)), n + 1 + whileL dig (l.drop (n + 1))) else if ofB (l.drop n) = true then (5, n, n + 3) else (2, n, n)
      | _ => (2, n, n) := by unfold numL; rw [hn]; rfl
  cases hm : l.drop n with
  | nil => rw [hm] at hdef; rw [hdef]; exact plain hdef
  | cons c m1 =>
    cases m1 with
    | nil => rw [hm] at hdef; rw [hdef]; exact plain hdef
    | cons d m =>
      rw [hm] at hdef
      simp only at hdef
      by_cases h46 : c = 46 ∧ dig d = true
      · rw [if_pos h46] at hdef
        rw [hdef]
        simp only
        have hd1 : l.drop (n + 1) = d :: m := by rw [← List.drop_drop, hm]; rfl
        generalize hw : whileL dig (l.drop (n + 1)) = w
        have hw1 : 1 ≤ w := by rw [← hw, hd1]; simp only [whileL, h46.2, if_true]; omega
        unfold numL
        rw [ht _ (by omega), List.drop_take, hm, show n + 1 + w - n = (w - 1) + 1 + 1 by omega, List.take_succ_cons, List.take_succ_cons]
        simp only
        rw [if_pos h46, List.drop_take, show n + 1 + w - (n + 1) = w by omega, whileL_take _ _ (by omega), hw]
      · rw [if_neg h46] at hdef
        by_cases ho : ofB (c :: d :: m) = true
        · rw [if_pos ho] at hdef
          rw [hdef]
          simp only
          have hp : preB ofS (c :: d :: m) = true := by
            cases hb : preB ofS (c :: d :: m) with
            | true => rfl
            | false => rw [ofB, hb] at ho; cases ho
          have hp2 := hp
          rw [preB, decide_eq_true_eq] at hp2
          have h3 : (c :: d :: m).take 3 = ofS := hp2
          unfold numL
          rw [ht _ (by omega), List.drop_take, hm, show n + 3 - n = 3 by omega, h3]
          simp only [ofS]
          rw [if_neg (show ¬ ((45 : UInt8) = 46 ∧ dig 111 = true) by decide)]
          exact if_pos (show ofB [45, 111, 102] = true by decide)
        · rw [if_neg ho] at hdef
          rw [hdef]
          exact plain hdef

end Go.Proofs.Ytkjidklifmcpnaa.AD
