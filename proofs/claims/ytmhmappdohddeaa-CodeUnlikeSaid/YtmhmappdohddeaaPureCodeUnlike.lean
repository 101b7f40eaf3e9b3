/- The plain statement of CodeUnlike: two programs have the same bytes just if they are the same. -/
import Derived.Test.YtmhmappdohddeaaCodeC
import Derived.Test.YtmhmappdohddeaaStatCodeUnlike
namespace Go.Proofs.Ytmhmappdohddeaa.Pure
open Go.RowKit Go.Proofs.YtmhmappdohddeaaW.PrintWords Go.Proofs.Ytmhmappdohddeaa.H Go.Proofs.Ytmhmappdohddeaa.CodeA Go.Proofs.Ytmhmappdohddeaa.CodeB Go.Proofs.Ytmhmappdohddeaa.CodeC Go.Proofs.Ytmhmappdohddeaa.PCodeUnlike
set_option linter.unusedVariables false
set_option linter.unusedSimpArgs false

theorem CodeUnlike : vouchlaw21_CodeUnlike.Pure := by
  intro a ts xs s b us ys t ga gb
  have hts : ∀ u ∈ ts, u.size ≤ 140737488351232 := ga.2.1.2.2
  have hus : ∀ u ∈ us, u.size ≤ 140737488351232 := gb.2.1.2.2
  have hxl : xs.length ≤ 9223372036854775807 := ga.2.2.1.1
  have hyl : ys.length ≤ 9223372036854775807 := gb.2.2.1.1
  have htl : ts.length ≤ 9223372036854775807 := ga.2.1.1
  have ha := encode_f a ts xs s hts hxl
  have hb := encode_f b us ys t hus hyl
  have hw : ∀ k, (vouchlaw21_works.f k).bind (fun t => some t) = vouchlaw21_works.f k := by intro k; cases vouchlaw21_works.f k <;> rfl
  have hj1 : ∀ (x y : List Int) , Ev (fun k => vouchlaw21_CodeUnlike.j1 k x y true a ts xs s b us ys t) true := by
    intro x y
    refine Ev.step (fun k => ?_) works_f
    simp only [vouchlaw21_CodeUnlike.j1, if_true]
    exact hw k
  have hj0 : ∀ q : Bool, Ev (fun k => vouchlaw21_CodeUnlike.j0 k q a ts xs s b us ys t) true := by
    intro q
    cases q
    · have hstep : ∀ k, vouchlaw21_CodeUnlike.j0 (k + 1) false a ts xs s b us ys t = ((code_Encode.f k a ts xs s).bind fun bt173 => ((code_Encode.f k b us ys t).bind fun bt177 => (if bt173.2 = 0 then (vouchlaw21_CodeUnlike.j1 k bt173.1 bt177.1 (bt177.2 != 0) a ts xs s b us ys t) else (vouchlaw21_CodeUnlike.j1 k bt173.1 bt177.1 true a ts xs s b us ys t)))) := by
        intro k
        simp only [vouchlaw21_CodeUnlike.j0, Bool.false_eq_true, if_false]
      refine Ev.step hstep (Ev.bind ha (Ev.bind hb ?_))
      by_cases h1 : (encode a ts xs s).2 = 0
      · by_cases h2 : (encode b us ys t).2 = 0
        · have hbf : ((encode b us ys t).2 != 0) = false := by rw [h2]; rfl
          simp only [h1, if_true, hbf]
          obtain ⟨m1, l1, e1⟩ := encode_ok h1
          obtain ⟨m2, l2, e2⟩ := encode_ok h2
          obtain ⟨_, _, ka, ra, oa⟩ := may_zero m1
          obtain ⟨_, _, kb, rb, ob⟩ := may_zero m2
          have q1 := right_range ra
          have q2 := right_range rb
          rw [e1, e2]
          have hstep2 : ∀ k, vouchlaw21_CodeUnlike.j1 (k + 1) (enc a ts xs s) (enc b us ys t) false a ts xs s b us ys t = ((vouchkit_SameProgram.f k a ts xs s b us ys t).bind fun t182 => (if (((strOfNums (enc a ts xs s)).toList == (strOfNums (enc b us ys t)).toList) == t182) = true then ((vouchlaw21_works.f k).bind fun t183 => (some t183)) else (some false))) := by
            intro k
            simp only [vouchlaw21_CodeUnlike.j1, Bool.false_eq_true, if_false]
          refine Ev.step hstep2 (Ev.bind (same_f a ts xs s b us ys t hxl htl) ?_)
          have key : (((strOfNums (enc a ts xs s)).toList == (strOfNums (enc b us ys t)).toList) == decide (a = b ∧ ts = us ∧ xs = ys ∧ s = t)) = true := by
            rw [beq_iff_eq]
            by_cases hq : a = b ∧ ts = us ∧ xs = ys ∧ s = t
            · obtain ⟨rfl, rfl, rfl, rfl⟩ := hq
              simp
            · rw [decide_eq_false hq]
              cases hh : ((strOfNums (enc a ts xs s)).toList == (strOfNums (enc b us ys t)).toList)
              · rfl
              · exfalso
                apply hq
                have hh2 := strOfNums_inj (enc_bytes a ts xs s (by omega) (fun x hx => by have := okI_parts (oa x hx); omega)) (enc_bytes b us ys t (by omega) (fun x hx => by have := okI_parts (ob x hx); omega)) (by simpa using hh)
                exact enc_inj a b ts us xs ys s t q1.1 q2.1 oa ob hh2
          simp only [key, if_true]
          exact Ev.congr hw works_f
        · have hbt : ((encode b us ys t).2 != 0) = true := by rw [bne_iff_ne]; exact h2
          simp only [h1, if_true, hbt]
          exact hj1 _ _
      · simp only [h1, if_false]
        exact hj1 _ _
    · refine Ev.step (fun k => ?_) works_f
      simp only [vouchlaw21_CodeUnlike.j0, if_true]
      exact hw k
  refine Ev.rounds (g := fun k => vouchlaw21_CodeUnlike.f k a ts xs s b us ys t) ?_
  unfold vouchlaw21_CodeUnlike.f
  split
  · exact hj0 _
  · split
    · exact hj0 _
    · split
      · exact hj0 _
      · exact hj0 _

end Go.Proofs.Ytmhmappdohddeaa.Pure
