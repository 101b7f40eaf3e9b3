/- What the document's own reader (vouchref21.Decode's parts) answers, plainly: the same reader as CodeD's. -/
import Derived.Test.YtmhmappdohddeaaCodeG
import Derived.Test.YtmhmappdohddeaaHvouchref21Decode
namespace Go.Proofs.Ytmhmappdohddeaa.CodeH
open Go.RowKit Go.Proofs.YtmhmappdohddeaaW.PrintWords Go.Proofs.Ytmhmappdohddeaa.H Go.Proofs.Ytmhmappdohddeaa.CodeA Go.Proofs.Ytmhmappdohddeaa.CodeB Go.Proofs.Ytmhmappdohddeaa.CodeC Go.Proofs.Ytmhmappdohddeaa.CodeD Go.Proofs.Ytmhmappdohddeaa.CodeE Go.Proofs.Ytmhmappdohddeaa.CodeF Go.Proofs.Ytmhmappdohddeaa.CodeG
set_option linter.unusedVariables false
set_option linter.unusedSimpArgs false

theorem octet_ok {b : List Int} {pos : Nat} (ha : At b pos) : vouchref21_reader_octet.f b (pos : Int) 0 0 = some (match b[pos]? with | some c => (c, ((pos + 1 : Nat) : Int), 0, 0) | none => (0, (pos : Int), 210, (pos : Int))) := by
  have h1 := ha.le
  have h2 := ha.len
  unfold vouchref21_reader_octet.f
  rw [if_pos rfl]
  by_cases hp : pos = b.length
  · have hn : b[pos]? = none := List.getElem?_eq_none (by omega)
    rw [if_pos (by omega), hn]
    have : (b.length : Int) = (pos : Int) := by omega
    simp [vouchref21_reader_fail.f, this]
  · have hlt : pos < b.length := by omega
    have w1 : wrap64 ((pos : Int) + 1) = ((pos + 1 : Nat) : Int) := by unfold wrap64; omega
    have w2 : wrap64 (((pos + 1 : Nat) : Int) - 1) = (pos : Int) := by unfold wrap64; omega
    have hr : rd b (pos : Int) = b[pos] := by unfold rd; rw [Int.toNat_natCast, List.getD_eq_getElem?_getD, List.getElem?_eq_getElem hlt]; rfl
    rw [if_neg (by omega), w1, w2, if_pos (by omega), if_pos (by omega), hr, List.getElem?_eq_getElem hlt]
theorem octet_er (b : List Int) (s e f : Int) (he : e ≠ 0) : vouchref21_reader_octet.f b s e f = some (0, s, e, f) := by
  unfold vouchref21_reader_octet.f
  rw [if_neg he]
theorem fail_er (b : List Int) (s e f x y : Int) (he : e ≠ 0) : vouchref21_reader_fail.f b s e f x y = some (s, e, f) := by
  unfold vouchref21_reader_fail.f
  rw [if_neg he]
theorem fail_ok (b : List Int) (s f x y : Int) : vouchref21_reader_fail.f b s 0 f x y = some (s, x, y) := by
  unfold vouchref21_reader_fail.f
  rw [if_pos rfl]
theorem number_er (b : List Int) (p e f : Int) (he : e ≠ 0) : Ev (fun j => vouchref21_reader_number.f j b p e f) (0, p, e, f) := by
  unfold vouchref21_reader_number.f
  refine Ev.step (f := fun _ => some (0, p, e, f)) (fun j => ?_) (Ev.now _)
  simp [vouchref21_reader_number.l0, octet_er b p e f he, he]

theorem number_step (b : List Int) (most start : Nat) (hmo : most = 2147483647) (c : Int) (pos v sh : Nat) (y : Int) (hl : pos < b.length) (hy : sh > 0 ↔ y > 0) {r : Out Nat} {G G' : Nat → Option (Int × Int × Int × Int)} (ih : ∃ t, Ev G' t ∧ NumIs b r t)
    (hstep : ∀ j, G (j + 1) = (if c < 128 then (if ((v : Nat) : Int) > 2147483647 then some (0, ((pos + 1 : Nat) : Int), 210, (start : Int)) else (if y > 0 then (if c = 0 then some (0, ((pos + 1 : Nat) : Int), 210, (start : Int)) else some ((v : Int), ((pos + 1 : Nat) : Int), 0, 0)) else some ((v : Int), ((pos + 1 : Nat) : Int), 0, 0))) else G' j)) :
    ∃ t, Ev G t ∧ NumIs b (if c < 128 then (if v > 2147483647 ∨ (sh > 0 ∧ c = 0) then .er 210 start else if v > most then .er 3 start else .ok v (pos + 1)) else r) t := by
  by_cases c1 : c < 128
  · simp only [c1, if_true] at hstep ⊢
    by_cases c2 : v > 2147483647
    · have c2' : (v : Int) > 2147483647 := by omega
      simp only [c2', if_true] at hstep
      simp only [c2, true_or, if_true]
      exact ⟨_, Ev.step (f := fun _ => some (0, ((pos + 1 : Nat) : Int), 210, (start : Int))) hstep (Ev.now _), by decide, pos + 1, by omega, rfl⟩
    · have c2' : ¬ (v : Int) > 2147483647 := by omega
      have c4 : ¬ v > most := by omega
      simp only [c2', if_false] at hstep
      simp only [c2, false_or, c4, if_false]
      by_cases s1 : y > 0
      · have s2 := hy.2 s1
        simp only [s1, if_true] at hstep
        by_cases c0 : c = 0
        · simp only [c0, if_true] at hstep
          simp only [s2, c0, and_self, if_true]
          exact ⟨_, Ev.step (f := fun _ => some (0, ((pos + 1 : Nat) : Int), 210, (start : Int))) hstep (Ev.now _), by decide, pos + 1, by omega, rfl⟩
        · simp only [c0, if_false] at hstep
          simp only [c0, and_false, if_false]
          exact ⟨_, Ev.step (f := fun _ => some ((v : Int), ((pos + 1 : Nat) : Int), 0, 0)) hstep (Ev.now _), rfl⟩
      · have s2 : ¬ sh > 0 := fun h => s1 (hy.1 h)
        simp only [s1, if_false] at hstep
        simp only [s2, false_and, if_false]
        exact ⟨_, Ev.step (f := fun _ => some ((v : Int), ((pos + 1 : Nat) : Int), 0, 0)) hstep (Ev.now _), rfl⟩
  · simp only [c1, if_false] at hstep ⊢
    obtain ⟨t, ht, hn⟩ := ih
    exact ⟨t, Ev.step hstep ht, hn⟩

theorem number_l0 (b : List Int) (hlen : b.length ≤ 1048577) (hby : ∀ c ∈ b, 0 ≤ c ∧ c ≤ 255) (most start : Nat) (hmo : most = 2147483647) (k : Nat) : ∀ (pos u sh : Nat), pos ≤ b.length → k ≤ 5 → sh = 7 * (5 - k) → u < 2 ^ sh →
    ∃ t, Ev (fun j => vouchref21_reader_number.l0 j (start : Int) (u : Int) ((2 ^ sh : Nat) : Int) ((5 - k : Nat) : Int) b (pos : Int) 0 0) t ∧ NumIs b (numL b most start k pos u sh) t := by
  induction k with
  | zero =>
    intro pos u sh hp hk hsh hu
    refine ⟨(0, (pos : Int), 210, (start : Int)), Ev.step (f := fun _ => some (0, (pos : Int), 210, (start : Int))) (fun j => ?_) (Ev.now _), by decide, pos, hp, rfl⟩
    have : ¬ ((5 - 0 : Nat) : Int) < 5 := by omega
    simp only [vouchref21_reader_number.l0, this, if_false, fail_ok, Option.bind_some]
  | succ k ih =>
    intro pos u sh hp hk hsh hu
    have ha : At b pos := ⟨hp, hlen, hby⟩
    have ho := octet_ok ha
    have h5 : ((5 - (k + 1) : Nat) : Int) < 5 := by omega
    cases hc : b[pos]? with
    | none =>
      rw [hc] at ho
      refine ⟨(0, (pos : Int), 210, (pos : Int)), Ev.step (f := fun _ => some (0, (pos : Int), 210, (pos : Int))) (fun j => ?_) (Ev.now _), ?_⟩
      · simp only [vouchref21_reader_number.l0, h5, if_true, ho, Option.bind_some]
        simp
      · simp only [numL, hc, NumIs]
        exact ⟨by decide, pos, hp, rfl⟩
    | some c =>
      rw [hc] at ho
      obtain ⟨hl, hg⟩ := List.getElem?_eq_some_iff.1 hc
      have hcb := hby c (by rw [← hg]; exact List.getElem_mem hl)
      have hpw : (2 : Nat) ^ sh ≤ 2 ^ 28 := Nat.pow_le_pow_right (by omega) (by omega)
      have hpw' : (2 : Nat) ^ 28 = 268435456 := by decide
      have hx : c.toNat % 128 * 2 ^ sh ≤ 127 * 2 ^ sh := Nat.mul_le_mul (by omega) (Nat.le_refl _)
      have wc : wrap64 c = c := by unfold wrap64; omega
      have hm : wrap64 ((Int.tmod c 128) * ((2 ^ sh : Nat) : Int)) = ((c.toNat % 128 * 2 ^ sh : Nat) : Int) := by
        have e1 : Int.tmod c 128 = ((c.toNat % 128 : Nat) : Int) := by
          rw [Int.tmod_eq_emod_of_nonneg (by omega)]
          omega
        have e2 : ((c.toNat % 128 : Nat) : Int) * ((2 ^ sh : Nat) : Int) = ((c.toNat % 128 * 2 ^ sh : Nat) : Int) := by push_cast; rfl
        rw [e1, e2]
        generalize c.toNat % 128 * 2 ^ sh = y at *
        generalize (2 : Nat) ^ sh = z at *
        unfold wrap64
        omega
      have hv : wrap64 ((u : Int) + ((c.toNat % 128 * 2 ^ sh : Nat) : Int)) = ((u + c.toNat % 128 * 2 ^ sh : Nat) : Int) := by
        generalize c.toNat % 128 * 2 ^ sh = y at *
        generalize (2 : Nat) ^ sh = z at *
        unfold wrap64
        omega
      have w5 : wrap64 (((2 ^ sh : Nat) : Int) * 128) = ((2 ^ (sh + 7) : Nat) : Int) := by
        have e : (2 : Nat) ^ (sh + 7) = 2 ^ sh * 128 := by rw [Nat.pow_add]
        rw [e]
        clear hm hv hx hu
        generalize (2 : Nat) ^ sh = z at *
        unfold wrap64
        omega
      have hv2 : u + c.toNat % 128 * 2 ^ sh < 2 ^ (sh + 7) := by
        have e : (2 : Nat) ^ (sh + 7) = 2 ^ sh * 128 := by rw [Nat.pow_add]
        rw [e]
        clear hm hv w5 ho ih hpw hpw'
        generalize (2 : Nat) ^ sh = z at *
        omega
      have w6 : wrap64 (((5 - (k + 1) : Nat) : Int) + 1) = ((5 - k : Nat) : Int) := by
        clear hm hv w5 ho ih hpw hpw' hx hu hv2
        unfold wrap64
        omega
      have h5' : sh > 0 ↔ ((5 - (k + 1) : Nat) : Int) > 0 := by
        clear hm hv w5 ho ih hpw hpw' hx hu hv2
        omega
      clear hpw hpw' hx hu
      have ih := ih (pos + 1) (u + c.toNat % 128 * 2 ^ sh) (sh + 7) (by clear hm hv w5 ho ih hv2; omega) (by clear hm hv w5 ho ih hv2; omega) (by clear hm hv w5 ho ih hv2; omega) hv2
      have hnum : numL b most start (k + 1) pos u sh = (if c < 128 then (if u + c.toNat % 128 * 2 ^ sh > 2147483647 ∨ (sh > 0 ∧ c = 0) then .er 210 start else if u + c.toNat % 128 * 2 ^ sh > most then .er 3 start else .ok (u + c.toNat % 128 * 2 ^ sh) (pos + 1)) else numL b most start k (pos + 1) (u + c.toNat % 128 * 2 ^ sh) (sh + 7)) := by
        simp only [numL, hc]
      rw [hnum]
      have hstep : ∀ j, vouchref21_reader_number.l0 (j + 1) (start : Int) (u : Int) ((2 ^ sh : Nat) : Int) ((5 - (k + 1) : Nat) : Int) b (pos : Int) 0 0 = (if c < 128 then (if ((u + c.toNat % 128 * 2 ^ sh : Nat) : Int) > 2147483647 then some (0, ((pos + 1 : Nat) : Int), 210, (start : Int)) else (if ((5 - (k + 1) : Nat) : Int) > 0 then (if c = 0 then some (0, ((pos + 1 : Nat) : Int), 210, (start : Int)) else some (((u + c.toNat % 128 * 2 ^ sh : Nat) : Int), ((pos + 1 : Nat) : Int), 0, 0)) else some (((u + c.toNat % 128 * 2 ^ sh : Nat) : Int), ((pos + 1 : Nat) : Int), 0, 0))) else vouchref21_reader_number.l0 j (start : Int) ((u + c.toNat % 128 * 2 ^ sh : Nat) : Int) ((2 ^ (sh + 7) : Nat) : Int) ((5 - k : Nat) : Int) b ((pos + 1 : Nat) : Int) 0 0) := by
        intro j
        simp only [vouchref21_reader_number.l0, h5, if_true, ho, Option.bind_some, wc, hm, hv, w5, w6, fail_ok]
      clear hm hv w5 w6 ho hc hv2 hnum
      exact number_step b most start hmo c pos _ sh _ hl h5' ih hstep
theorem number_f {b : List Int} {pos : Nat} (ha : At b pos) : ∃ t, Ev (fun j => vouchref21_reader_number.f j b (pos : Int) 0 0) t ∧ NumIs b (num b 2147483647 pos) t := by
  have := number_l0 b ha.len ha.bytes 2147483647 pos rfl 5 pos 0 0 ha.le (by omega) (by omega) (by omega)
  exact this
end Go.Proofs.Ytmhmappdohddeaa.CodeH
