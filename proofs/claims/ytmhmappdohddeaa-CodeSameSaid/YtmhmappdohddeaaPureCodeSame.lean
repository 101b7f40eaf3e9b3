/- The plain statement of CodeSame: Same answers whether two programs are the same; of a lent program it says yes. -/
import Derived.Test.YtmhmappdohddeaaCodeK
import Derived.Test.YtmhmappdohddeaaStatCodeSame
namespace Go.Proofs.Ytmhmappdohddeaa.Pure
open Go.RowKit Go.Proofs.YtmhmappdohddeaaW.PrintWords Go.Proofs.Ytmhmappdohddeaa.H Go.Proofs.Ytmhmappdohddeaa.CodeA Go.Proofs.Ytmhmappdohddeaa.CodeB Go.Proofs.Ytmhmappdohddeaa.CodeC Go.Proofs.Ytmhmappdohddeaa.CodeK Go.Proofs.Ytmhmappdohddeaa.PCodeSame
set_option linter.unusedVariables false
set_option linter.unusedSimpArgs false

theorem CodeSame : vouchlaw21_CodeSame.Pure := by
  intro a ts xs s b us ys t ga gb
  have hts : ∀ u ∈ ts, u.size ≤ 140737488351232 := ga.2.1.2.2
  have hus : ∀ u ∈ us, u.size ≤ 140737488351232 := gb.2.1.2.2
  have hxl : xs.length ≤ 9223372036854775807 := ga.2.2.1.1
  have htl : ts.length ≤ 9223372036854775807 := ga.2.1.1
  have hw : ∀ k, (vouchlaw21_works.f k).bind (fun t => some t) = vouchlaw21_works.f k := by intro k; cases vouchlaw21_works.f k <;> rfl
  have hjt : Ev (fun k => vouchlaw21_CodeSame.j0 k true a ts xs s b us ys t) true := by
    refine Ev.step (fun k => ?_) works_f
    simp only [vouchlaw21_CodeSame.j0, if_true]
    exact hw k
  refine Ev.rounds (g := fun k => vouchlaw21_CodeSame.f k a ts xs s b us ys t) ?_
  unfold vouchlaw21_CodeSame.f
  by_cases h1 : (xs.length : Int) > 65536
  · simp only [h1, if_true]; exact hjt
  by_cases h2 : (ts.length : Int) > 65536
  · simp only [h1, h2, if_true, if_false]; exact hjt
  by_cases h3 : (ys.length : Int) > 65536
  · simp only [h1, h2, h3, if_true, if_false]; exact hjt
  simp only [h1, h2, h3, if_false]
  by_cases h4 : (us.length : Int) > 65536
  · rw [decide_eq_true h4]; exact hjt
  rw [decide_eq_false h4]
  have hs : ∀ k, vouchlaw21_CodeSame.j0 (k + 1) false a ts xs s b us ys t = ((code_Same.f k a ts xs s b us ys t).bind fun t104 => ((vouchkit_SameProgram.f k a ts xs s b us ys t).bind fun t105 => (if (t104 == t105) = true then ((vouchkit_LentProgram.f a ts xs s).bind fun bt106 => ((code_Same.f k bt106.1 bt106.2.1 bt106.2.2.1 bt106.2.2.2 a ts xs s).bind fun t114 => (if t114 = true then ((vouchlaw21_works.f k).bind fun t115 => (some t115)) else (some false)))) else (some false)))) := by
    intro k
    simp only [vouchlaw21_CodeSame.j0, Bool.false_eq_true, if_false]
  refine Ev.step hs (Ev.bind (csame_f a ts xs s b us ys t hxl htl hts hus) (Ev.bind (same_f a ts xs s b us ys t hxl htl) ?_))
  simp only [beq_self_eq_true, if_true, lent_f a ts xs s (by omega) (by omega), Option.bind_some]
  refine Ev.bind (csame_f a ts xs s a ts xs s hxl htl hts hts) ?_
  have : decide (a = a ∧ ts = ts ∧ xs = xs ∧ s = s) = true := by simp
  simp only [this, if_true]
  exact Ev.congr hw works_f
end Go.Proofs.Ytmhmappdohddeaa.Pure
