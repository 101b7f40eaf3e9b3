/- The plain statement of CodeForth: what is read is written back the same; an error has its place in the bytes and no program. -/
import Derived.Test.YtmhmappdohddeaaCodeG
import Derived.Test.YtmhmappdohddeaaStatCodeForth
namespace Go.Proofs.Ytmhmappdohddeaa.Pure
open Go.RowKit Go.Proofs.YtmhmappdohddeaaW.PrintWords Go.Proofs.Ytmhmappdohddeaa.H Go.Proofs.Ytmhmappdohddeaa.CodeA Go.Proofs.Ytmhmappdohddeaa.CodeB Go.Proofs.Ytmhmappdohddeaa.CodeC Go.Proofs.Ytmhmappdohddeaa.CodeD Go.Proofs.Ytmhmappdohddeaa.CodeE Go.Proofs.Ytmhmappdohddeaa.CodeF Go.Proofs.Ytmhmappdohddeaa.CodeG Go.Proofs.Ytmhmappdohddeaa.PCodeForth
set_option linter.unusedVariables false
set_option linter.unusedSimpArgs false

theorem CodeForth : vouchlaw21_CodeForth.Pure := by
  intro b hb
  have hby : ∀ c ∈ b, 0 ≤ c ∧ c ≤ 255 := by
    intro c hc
    have := hb.2.2 c hc
    have h2 : IntKind.u8.min ≤ c ∧ c ≤ IntKind.u8.max := by simpa [Lit.wf] using this
    exact h2
  have hd := decode_f b hby
  have hw : ∀ k, (vouchlaw21_works.f k).bind (fun t => some t) = vouchlaw21_works.f k := by intro k; cases vouchlaw21_works.f k <;> rfl
  refine Ev.rounds (g := fun k => vouchlaw21_CodeForth.f k b) ?_
  unfold vouchlaw21_CodeForth.f
  refine Ev.bind hd ?_
  have hbad : ∀ (e : Int) (f : Nat), e ≠ 0 → f ≤ b.length → CodeF.decode b = (0, [], [], 0, (f : Int), e) → Ev (fun k => if (CodeF.decode b).2.2.2.2.2 = 0 then ((code_Encode.f k (CodeF.decode b).1 (CodeF.decode b).2.1 (CodeF.decode b).2.2.1 (CodeF.decode b).2.2.2.1).bind fun bt112 => (if (CodeF.decode b).2.2.2.2.1 = 0 then (if bt112.2 = 0 then (if (strOfNums bt112.1).toList = (strOfNums b).toList then ((vouchlaw21_works.f k).bind fun t116 => (some t116)) else (some false)) else (some false)) else (some false))) else (if ((CodeF.decode b).2.2.1.length : Int) = 0 then (if ((CodeF.decode b).2.1.length : Int) = 0 then (if (CodeF.decode b).1 = 0 then (if (CodeF.decode b).2.2.2.1 = 0 then (if (CodeF.decode b).2.2.2.2.1 ≥ 0 then (if (CodeF.decode b).2.2.2.2.1 ≤ (b.length : Int) then ((vouchlaw21_works.f k).bind fun t117 => (some t117)) else (some false)) else (some false)) else (some false)) else (some false)) else (some false)) else (some false))) true := by
    intro e f he hf h
    refine Ev.congr (f := fun k => vouchlaw21_works.f k) (fun k => ?_) works_f
    rw [h]
    simp only [he, if_false, List.length_nil, Int.natCast_zero, if_true]
    rw [if_pos (by omega), if_pos (by omega)]
    exact hw k
  by_cases hl : b.length > 1048576
  · exact hbad 3 0 (by decide) (by omega) (by unfold CodeF.decode; rw [if_pos hl]; rfl)
  · have he : CodeF.decode b = ans (dec b) := by unfold CodeF.decode; rw [if_neg hl]
    have hs := sane_dec b
    cases hdc : dec b with
    | er e f =>
      rw [hdc] at hs he
      exact hbad e f hs.1 hs.2 he
    | ok r q =>
      rw [hdc] at he
      obtain ⟨h1, h2⟩ := dec_ok hby hdc
      have hsz := text_le_enc r.kd r.ts r.xs r.st
      rw [h2] at hsz
      have hm := may_zero h1
      have hen := encode_f r.kd r.ts r.xs r.st (fun s hs => by have := hsz s hs; omega) (by omega)
      have hee : encode r.kd r.ts r.xs r.st = (b, 0) := by
        unfold encode
        rw [if_pos h1, h2, if_neg hl]
      rw [hee] at hen
      have hdd : CodeF.decode b = (r.kd, r.ts, r.xs, r.st, 0, 0) := he
      rw [hdd]
      simp only [if_true]
      refine Ev.bind hen ?_
      simp only [if_true]
      exact Ev.congr hw works_f
end Go.Proofs.Ytmhmappdohddeaa.Pure
