/- The plain statement of CodeBack: what is written is read back, and no beginning of it and nothing longer is. -/
import Derived.Test.YtmhmappdohddeaaCodeG
import Derived.Test.YtmhmappdohddeaaStatCodeBack
namespace Go.Proofs.Ytmhmappdohddeaa.Pure
open Go.RowKit Go.Proofs.YtmhmappdohddeaaW.PrintWords Go.Proofs.Ytmhmappdohddeaa.H Go.Proofs.Ytmhmappdohddeaa.CodeA Go.Proofs.Ytmhmappdohddeaa.CodeB Go.Proofs.Ytmhmappdohddeaa.CodeC Go.Proofs.Ytmhmappdohddeaa.CodeD Go.Proofs.Ytmhmappdohddeaa.CodeE Go.Proofs.Ytmhmappdohddeaa.CodeF Go.Proofs.Ytmhmappdohddeaa.CodeG Go.Proofs.Ytmhmappdohddeaa.PCodeBack
set_option linter.unusedVariables false
set_option linter.unusedSimpArgs false

theorem check_f (kd : Int) (ts : List ByteArray) (xs : List S41) (st : Int) (hs : ∀ s ∈ ts, s.size ≤ 140737488351232) (hxl : xs.length ≤ 9223372036854775807) : Ev (fun k => code_Check.f k kd ts xs st) (encode kd ts xs st).2 := by
  unfold code_Check.f
  exact Ev.bind (encode_f kd ts xs st hs hxl) (Ev.now _)

theorem CodeBack : vouchlaw21_CodeBack.Pure := by
  intro a ts xs s c ga gc
  have hts : ∀ u ∈ ts, u.size ≤ 140737488351232 := ga.2.1.2.2
  have hxl : xs.length ≤ 9223372036854775807 := ga.2.2.1.1
  have htl : ts.length ≤ 9223372036854775807 := ga.2.1.1
  have hc : 0 ≤ c ∧ c ≤ 255 := by
    have h2 : IntKind.u8.min ≤ c ∧ c ≤ IntKind.u8.max := by simpa [Lit.wf] using gc
    exact h2
  have hw : ∀ k, (vouchlaw21_works.f k).bind (fun t => some t) = vouchlaw21_works.f k := by intro k; cases vouchlaw21_works.f k <;> rfl
  have he := encode_f a ts xs s hts hxl
  have hck := check_f a ts xs s hts hxl
  refine Ev.rounds (g := fun k => vouchlaw21_CodeBack.f k a ts xs s c) ?_
  unfold vouchlaw21_CodeBack.f
  refine Ev.bind he ?_
  by_cases h0 : (encode a ts xs s).2 = 0
  · obtain ⟨hm, hl, hee⟩ := encode_ok h0
    have hby := enc_by hm
    have hsz := text_le_enc a ts xs s
    have hs31 : ∀ u ∈ ts, u.size ≤ 2147483647 := fun u hu => by have := hsz u hu; omega
    generalize hb : enc a ts xs s = b at *
    rw [hee]
    simp only [if_true]
    -- what is read of a list of bytes that is not too long
    have dd : ∀ l : List Int, (∀ x ∈ l, 0 ≤ x ∧ x ≤ 255) → l.length ≤ 1048576 → Ev (fun k => code_Decode.f k l) (ans (dec l)) := by
      intro l h1 h2
      have := decode_f l h1
      unfold CodeF.decode at this
      rw [if_neg (by omega)] at this
      exact this
    have d1 := dd b hby hl
    have e1 := dec_enc a s ts xs hm hs31
    rw [hb] at e1
    rw [e1] at d1
    refine Ev.bind d1 ?_
    simp only [ans, if_true]
    refine Ev.bind (same_f a ts xs s a ts xs s hxl htl) ?_
    have : decide (a = a ∧ ts = ts ∧ xs = xs ∧ s = s) = true := by simp
    simp only [this, if_true]
    have n0 : ¬ (b.length : Int) > 1048576 := by omega
    simp only [n0, if_false]
    refine Ev.bind hck ?_
    rw [hee]
    -- the end: one byte more
    have hend : ∀ (i : Int), Ev (fun k => vouchlaw21_CodeBack.j2 k c b i false) true := by
      intro i
      have hle : b.length < 140737488355328 := by omega
      have hby2 : ∀ x ∈ b ++ [c], 0 ≤ x ∧ x ≤ 255 := by
        intro x hx
        rcases List.mem_append.1 hx with hx | hx
        · exact hby x hx
        · rw [List.mem_singleton.1 hx]; exact hc
      have hd := decode_f (b ++ [c]) hby2
      by_cases hn : b.length = 1048576
      · have e2 : CodeF.decode (b ++ [c]) = (0, [], [], 0, 0, 3) := by
          unfold CodeF.decode
          rw [if_pos (by simp; omega)]
        rw [e2] at hd
        refine Ev.step (f := fun k => (code_Decode.f k (b ++ [c])).bind fun bt139 => if bt139.2.2.2.2.2 = 210 then (if bt139.2.2.2.2.1 = (b.length : Int) then ((vouchlaw21_works.f k).bind fun t150 => (some t150)) else (if (b.length : Int) = 1048576 then (if bt139.2.2.2.2.2 = 3 then (if bt139.2.2.2.2.1 = 0 then ((vouchlaw21_works.f k).bind fun t151 => (some t151)) else (some false)) else (some false)) else (some false))) else (if (b.length : Int) = 1048576 then (if bt139.2.2.2.2.2 = 3 then (if bt139.2.2.2.2.1 = 0 then ((vouchlaw21_works.f k).bind fun t152 => (some t152)) else (some false)) else (some false)) else (some false))) (fun k => ?_) ?_
        · simp only [vouchlaw21_CodeBack.j2, Bool.false_eq_true, if_false]
          rw [if_pos hle]
        · refine Ev.bind hd ?_
          have hn' : (b.length : Int) = 1048576 := by omega
          simp only [hn', if_true]
          refine Ev.congr (f := fun k => vouchlaw21_works.f k) (fun k => ?_) works_f
          rw [if_neg (by decide)]
          exact hw k
      · have e2 : CodeF.decode (b ++ [c]) = (0, [], [], 0, (b.length : Int), 210) := by
          have e3 := dec_more a s ts xs hm hs31 c
          rw [hb] at e3
          unfold CodeF.decode
          rw [if_neg (by simp; omega), e3]
          rfl
        rw [e2] at hd
        refine Ev.step (f := fun k => (code_Decode.f k (b ++ [c])).bind fun bt139 => if bt139.2.2.2.2.2 = 210 then (if bt139.2.2.2.2.1 = (b.length : Int) then ((vouchlaw21_works.f k).bind fun t150 => (some t150)) else (if (b.length : Int) = 1048576 then (if bt139.2.2.2.2.2 = 3 then (if bt139.2.2.2.2.1 = 0 then ((vouchlaw21_works.f k).bind fun t151 => (some t151)) else (some false)) else (some false)) else (some false))) else (if (b.length : Int) = 1048576 then (if bt139.2.2.2.2.2 = 3 then (if bt139.2.2.2.2.1 = 0 then ((vouchlaw21_works.f k).bind fun t152 => (some t152)) else (some false)) else (some false)) else (some false))) (fun k => ?_) ?_
        · simp only [vouchlaw21_CodeBack.j2, Bool.false_eq_true, if_false]
          rw [if_pos hle]
        · refine Ev.bind hd ?_
          simp only [if_true]
          exact Ev.congr hw works_f
    -- the beginnings
    have hloop : ∀ (d i : Nat), i ≤ b.length → b.length - i = d → Ev (fun k => vouchlaw21_CodeBack.l0 k c b (i : Int)) true := by
      intro d
      induction d with
      | zero =>
        intro i hi hd
        refine Ev.step (fun k => ?_) (hend (i : Int))
        simp only [vouchlaw21_CodeBack.l0]
        rw [if_neg (by omega)]
      | succ d ih =>
        intro i hi hd
        by_cases h3 : i < 300
        · refine Ev.step (f := fun k => vouchlaw21_CodeBack.j2 k c b (i : Int) true) (fun k => ?_) ?_
          · simp only [vouchlaw21_CodeBack.l0]
            rw [if_pos (by omega), decide_eq_true (by omega)]
          · have hlen : (b.take i).length = i := by rw [List.length_take]; omega
            have d2 := dd (b.take i) (fun x hx => hby x (List.mem_of_mem_take hx)) (by omega)
            have e2 := dec_take a s ts xs hm hs31 i (by rw [hb]; omega)
            rw [hb] at e2
            rw [e2] at d2
            refine Ev.step (f := fun k => (code_Decode.f k (b.take i)).bind fun bt125 => (if bt125.2.2.2.2.2 = 210 then (if bt125.2.2.2.2.1 = (i : Int) then (vouchlaw21_CodeBack.l0 k c b ((i + 1 : Nat) : Int)) else (some false)) else (some false))) (fun k => ?_) ?_
            · simp only [vouchlaw21_CodeBack.j2, if_true]
              rw [if_pos (by omega), if_pos (by omega), wrap_succ (n := b.length) (by omega) (by omega) (by omega), Int.toNat_natCast]
              rfl
            · refine Ev.bind d2 ?_
              simp only [ans, if_true]
              exact ih (i + 1) (by omega) (by omega)
        · refine Ev.step (f := fun k => vouchlaw21_CodeBack.j2 k c b (i : Int) false) (fun k => ?_) (hend _)
          simp only [vouchlaw21_CodeBack.l0]
          rw [if_pos (by omega), decide_eq_false (by omega)]
    have h0' : ((0 : Int) != 0) = false := rfl
    refine Ev.step (fun k => ?_) (hloop b.length 0 (by omega) (by omega))
    simp only [vouchlaw21_CodeBack.j0, h0', Bool.false_eq_true, if_false]
    rfl
  · have hnil : (encode a ts xs s).1 = [] := by
      unfold encode at h0 ⊢
      split
      · rename_i h1
        rw [if_pos h1] at h0
        split
        · rfl
        · rename_i h2
          rw [if_neg h2] at h0
          exact absurd rfl h0
      · rfl
    simp only [h0, if_false, hnil, List.length_nil, Int.natCast_zero, if_true]
    refine Ev.bind hck ?_
    simp only [if_true]
    exact Ev.congr hw works_f
end Go.Proofs.Ytmhmappdohddeaa.Pure
