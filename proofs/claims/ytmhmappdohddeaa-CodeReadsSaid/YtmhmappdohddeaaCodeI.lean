/- The document's own Decode (vouchref21.Decode) answers just what code.Decode answers. -/
import Derived.Test.YtmhmappdohddeaaCodeH
namespace Go.Proofs.Ytmhmappdohddeaa.CodeI
open Go.RowKit Go.Proofs.YtmhmappdohddeaaW.PrintWords Go.Proofs.Ytmhmappdohddeaa.H Go.Proofs.Ytmhmappdohddeaa.CodeA Go.Proofs.Ytmhmappdohddeaa.CodeB Go.Proofs.Ytmhmappdohddeaa.CodeC Go.Proofs.Ytmhmappdohddeaa.CodeD Go.Proofs.Ytmhmappdohddeaa.CodeE Go.Proofs.Ytmhmappdohddeaa.CodeF Go.Proofs.Ytmhmappdohddeaa.CodeG Go.Proofs.Ytmhmappdohddeaa.CodeH
set_option linter.unusedVariables false
set_option linter.unusedSimpArgs false

theorem numL_most (b : List Int) (most top start : Nat) (ht : top = 2147483647) (hm : most ≤ top) (k : Nat) : ∀ (pos u sh : Nat), numL b most start k pos u sh = (numL b top start k pos u sh).bind fun v q => if v > most then .er 3 start else .ok v q := by
  induction k with
  | zero => intro pos u sh; rfl
  | succ k ih =>
    intro pos u sh
    unfold numL
    cases b[pos]? with
    | none => rfl
    | some c =>
      dsimp only
      generalize u + c.toNat % 128 * 2 ^ sh = v
      by_cases c1 : c < 128
      · simp only [c1, if_true]
        by_cases c2 : v > 2147483647 ∨ (sh > 0 ∧ c = 0)
        · simp only [c2, if_true, Out.bind]
        · have c3 : ¬ v > top := by
            intro h
            exact c2 (.inl (by omega))
          simp only [c2, if_false, c3, Out.bind]
      · simp only [c1, if_false]
        exact ih _ _ _
theorem num_most (b : List Int) (most top : Nat) (ht : top = 2147483647) (hm : most ≤ top) (pos : Nat) : num b most pos = (num b top pos).bind fun v q => if v > most then .er 3 pos else .ok v q := numL_most b most top pos ht hm 5 pos 0 0

theorem count_f {b : List Int} {pos : Nat} (ha : At b pos) (most top : Nat) (ht : top = 2147483647) (hm : most ≤ top) : ∃ t, Ev (fun j => vouchref21_reader_count.f j b (pos : Int) 0 0 (most : Int)) t ∧ NumIs b (num b most pos) t := by
  obtain ⟨t, h1, hn⟩ := number_f ha
  have e2 : num b 2147483647 pos = num b top pos := by rw [ht]
  rw [e2] at hn
  have hq := num_most b most top ht hm pos
  cases ho : num b top pos with
  | er e f =>
    rw [ho] at hn hq
    obtain ⟨he, p, hp, rfl⟩ := hn
    refine ⟨(0, (p : Int), e, (f : Int)), ?_, by rw [hq]; exact ⟨he, p, hp, rfl⟩⟩
    unfold vouchref21_reader_count.f
    refine Ev.bind h1 ?_
    have : ¬ (0 : Int) > (most : Int) := by omega
    simp only [this, if_false]
    exact Ev.now _
  | ok v q =>
    rw [ho] at hn hq
    have hl : q ≤ b.length := num_le ha ho
    obtain rfl : t = ((v : Int), (q : Int), 0, 0) := hn
    simp only [Out.bind] at hq
    by_cases hv : v > most
    · rw [if_pos hv] at hq
      refine ⟨(0, (q : Int), 3, (pos : Int)), ?_, by rw [hq]; exact ⟨by decide, q, hl, rfl⟩⟩
      unfold vouchref21_reader_count.f
      refine Ev.bind h1 ?_
      have : (v : Int) > (most : Int) := by omega
      simp only [this, if_true, fail_ok, Option.bind_some]
      exact Ev.now _
    · rw [if_neg hv] at hq
      refine ⟨((v : Int), (q : Int), 0, 0), ?_, by rw [hq]; rfl⟩
      unfold vouchref21_reader_count.f
      refine Ev.bind h1 ?_
      have : ¬ (v : Int) > (most : Int) := by omega
      simp only [this, if_false]
      exact Ev.now _
theorem count_er (b : List Int) (p e f most : Int) (hm : 0 ≤ most) (he : e ≠ 0) : Ev (fun j => vouchref21_reader_count.f j b p e f most) (0, p, e, f) := by
  unfold vouchref21_reader_count.f
  refine Ev.bind (number_er b p e f he) ?_
  have : ¬ (0 : Int) > most := by omega
  simp only [this, if_false]
  exact Ev.now _

theorem rtext_f {b : List Int} {pos : Nat} (ha : At b pos) : ∃ t, Ev (fun j => vouchref21_reader_text.f j b (pos : Int) 0 0) t ∧ TextIs b (text b pos) t := by
  obtain ⟨t, ht, hn⟩ := number_f ha
  have hlen := ha.len
  unfold text
  cases ho : num b 2147483647 pos with
  | er e f =>
    rw [ho] at hn
    obtain ⟨he, p, hp, rfl⟩ := hn
    refine ⟨(⟨#[]⟩, (p : Int), e, (f : Int)), ?_, he, p, hp, rfl⟩
    unfold vouchref21_reader_text.f
    refine Ev.bind ht ?_
    simp only [he, if_false]
    exact Ev.now _
  | ok n q =>
    rw [ho] at hn
    have hq := num_le ha ho
    obtain rfl : t = ((n : Int), (q : Int), 0, 0) := hn
    have w1 : wrap64 ((b.length : Int) - (q : Int)) = ((b.length - q : Nat) : Int) := by unfold wrap64; omega
    simp only [Out.bind]
    by_cases hc : n > b.length - q
    · rw [if_pos hc]
      refine ⟨(⟨#[]⟩, (q : Int), 210, (b.length : Int)), ?_, by decide, q, hq, rfl⟩
      unfold vouchref21_reader_text.f
      refine Ev.bind ht ?_
      have : (n : Int) > ((b.length - q : Nat) : Int) := by omega
      simp only [if_true, w1, this, fail_ok, Option.bind_some]
      exact Ev.now _
    · rw [if_neg hc]
      refine ⟨(strOfNums ((b.drop q).take n), ((q + n : Nat) : Int), 0, 0), ?_, rfl⟩
      unfold vouchref21_reader_text.f
      refine Ev.bind ht ?_
      have c1 : ¬ (n : Int) > ((b.length - q : Nat) : Int) := by omega
      have w2 : wrap64 ((q : Int) + (n : Int)) = ((q + n : Nat) : Int) := by unfold wrap64; omega
      have w3 : wrap64 (((q + n : Nat) : Int) - (n : Int)) = (q : Int) := by unfold wrap64; omega
      have c2 : (0 : Int) ≤ (q : Int) := by omega
      have c3 : (q : Int) ≤ ((q + n : Nat) : Int) := by omega
      have c4 : ((q + n : Nat) : Int) ≤ (b.length : Int) := by omega
      have e1 : (b.take (q + n)).drop q = (b.drop q).take n := by rw [List.drop_take]; congr 1; omega
      simp only [if_true, w1, c1, if_false, w2, w3, c2, c3, c4, Int.toNat_natCast, e1]
      exact Ev.now _

theorem hasA_f (c : Int) : vouchref21_HasA.f c = some (hasA c) := by
  unfold vouchref21_HasA.f hasA ofS
  repeat' split
  all_goals first | rfl | (simp_all; done) | (congr 1; simp_all; done) | (exfalso; simp_all; done) | skip
theorem hasB_f (c : Int) : vouchref21_HasB.f c = some (hasB c) := by
  unfold vouchref21_HasB.f hasB ofS
  congr 1
  repeat' split
  all_goals (first | (rename_i h; rcases h with h | h | h | h | h | h | h | h | h <;> subst h <;> rfl) | (rename_i h; subst h; rfl) | simp_all)
end Go.Proofs.Ytmhmappdohddeaa.CodeI
