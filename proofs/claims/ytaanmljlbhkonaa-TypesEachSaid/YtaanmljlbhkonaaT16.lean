/- Chapter 20: clauses one behind the other are right just if each one alone is: the law TypesEach of the code. -/
import Derived.Test.YtaanmljlbhkonaaT12
import Derived.Test.YtaanmljlbhkonaaA21
namespace Go.Proofs.Ytaanmljlbhkonaa.AD
open Go.Proofs
set_option linter.unusedVariables false
set_option linter.unusedSimpArgs false
set_option maxRecDepth 100000

def stepW (w : Int) (c : Cl) : Int := if clsT [c] = 151 then 151 else if clsT [c] = 200 ∧ w = 0 then 200 else w
def eachW (w : Int) : List Cl → Int
  | [] => w
  | c :: r => eachW (stepW w c) r

theorem clsT_one (c : Cl) : clsT [c] = if checkC c then (if rightC c then 0 else 200) else 151 := by
  simp [clsT, checkL, rightL]
theorem eachW_eq (l : List Cl) : ∀ w : Int, (w = 0 ∨ w = 200 ∨ w = 151) → eachW w l = if w = 151 then 151 else if checkL l = true then (if w = 200 ∨ rightL l = false then 200 else 0) else 151 := by
  induction l with
  | nil => intro w h; rcases h with rfl | rfl | rfl <;> simp [eachW, checkL, rightL]
  | cons c r ih =>
    intro w h
    rw [eachW, ih]
    · simp only [stepW, clsT_one, checkL, rightL]
      rcases Bool.eq_false_or_eq_true (checkC c) with h1 | h1 <;> rcases Bool.eq_false_or_eq_true (rightC c) with h2 | h2 <;> rcases Bool.eq_false_or_eq_true (checkL r) with h3 | h3 <;> rcases Bool.eq_false_or_eq_true (rightL r) with h4 | h4 <;> rcases h with rfl | rfl | rfl <;> simp [h1, h2, h3, h4]
    · simp only [stepW]
      (repeat' split) <;> omega
theorem eachW_all (l : List Cl) : eachW 0 l = clsT l := by
  rw [eachW_eq l 0 (by omega), clsT]
  cases h3 : checkL l <;> cases h4 : rightL l <;> simp

theorem TypesEach_spec (l : List Cl) (hl : (l.length : Int) ≤ 9223372036854775807) (hf : ∀ c, c ∈ l → FitsC c) : pureF Try.prog 6 [.p (.list 8 (encCs l))] (.p (.bool true)) := by
  refine pureF_of f6_ok fun H => ?_
  have hs := Sizes_spec l 20000 (by omega) (by omega)
  have ho := Clauses_spec l hl hf
  have hw := works_spec
  have he := encCs_len l
  (conv => whnf)
  refine CallVC.pureF hs rfl ?_
  (conv => whnf)
  refine splitB_dec (fun h => ?_) (fun h => ?_)
  · (conv => whnf)
    refine CallVC.pureF hw rfl ?_
    exact ⟨rfl, rfl⟩
  · (conv => whnf)
    intro R hR
    have key : ∀ (rest : List Cl) (i : Nat) (w : Int), l.drop i = rest → (w = 0 ∨ w = 200 ∨ w = 151) → eachW w rest = clsT l → R [(0, .p (.list 8 (encCs l))), (3, .p (.int .i64 w)), (4, .p (.int .i64 i))] H [] := by
      intro rest
      induction rest with
      | nil =>
        intro i w hd hw3 hq
        have hl := drop_nil hd
        refine hR _ _ _ ?_
        (conv => whnf)
        refine splitB_f (decide_eq_false (by omega)) ?_
        (conv => whnf)
        refine CallVC.pureF ho rfl ?_
        (conv => whnf)
        refine splitB_t (beq_iff_eq.2 hq.symm) ?_
        (conv => whnf)
        refine CallVC.pureF hw rfl ?_
        exact ⟨rfl, rfl⟩
      | cons c r ihr =>
        intro i w hd hw3 hq
        obtain ⟨hg, hd', hi⟩ := drop_cons hd
        have hmem := List.mem_of_getElem? hg
        have hfc := hf c hmem
        have h1 := Clauses_spec [c] (by simp) fun d hd => by rw [List.mem_singleton] at hd; subst hd; exact hfc
        refine hR _ _ _ ?_
        (conv => whnf)
        refine splitB_t (decide_eq_true (by omega)) ?_
        (conv => whnf)
        rw [IntWalk.i64_in _ (by omega)]
        refine ⟨rfl, ?_⟩
        (conv => whnf)
        refine ⟨⟨by omega, by omega, by omega⟩, ?_⟩
        (conv => whnf)
        have hcut : List.drop ((i : Int)).toNat (List.take ((i : Int) + 1).toNat (encCs l)) = encCs [c] := by
          have e1 : ((i : Int) + 1).toNat = i + 1 := by omega
          rw [e1, Int.toNat_natCast, encCs_map, encCs_map, ← List.map_take, ← List.map_drop, ← List.take_append_getElem hi, List.drop_append, List.length_take]
          rw [List.drop_of_length_le (by rw [List.length_take]; omega), show i - min i l.length = 0 by omega]
          simp [(List.getElem?_eq_some_iff.1 hg).2]
        rw [← hcut] at h1
        refine CallVC.pureF h1 rfl ?_
        have hq' : eachW (stepW w c) r = clsT l := hq
        have hw3' : stepW w c = 0 ∨ stepW w c = 200 ∨ stepW w c = 151 := by
          simp only [stepW]
          (repeat' split) <;> omega
        have hnext := ihr (i + 1) (stepW w c) hd' hw3' hq'
        have hcl : clsT [c] = 0 ∨ clsT [c] = 200 ∨ clsT [c] = 151 := by rw [clsT_one]; (repeat' split) <;> simp
        have hgood : clsT [c] = 0 → checkC c = true ∧ rightC c = true := by
          rw [clsT_one]
          intro h
          (repeat' split at h) <;> simp_all
        obtain ⟨kk, ⟨o, t, xs⟩, ⟨o2, t2, xs2⟩, b⟩ := c
        cases hfc with
        | mk _ _ _ _ hk hft hfv hb hbs =>
        have hto := Of_spec _ hft
        have hbo := Clauses_spec b hb hbs
        rcases hcl with h0 | h0 | h0
        · obtain ⟨g1, g2⟩ := hgood h0
          obtain ⟨p1, p2, p3⟩ := checkC_parts g1
          have hmt : mayE (.mk o t xs) = true := by
            simp only [checkC, Bool.and_eq_true] at g1
            exact g1.2
          simp only [rightC, Bool.and_eq_true, decide_eq_true_eq] at g2
          have hbz : clsT b = 0 := by rw [clsT, p3, g2.2.2]; rfl
          rw [ofT, if_pos hmt, g2.1] at hto
          rw [hbz] at hbo
          have hst : stepW w (.mk kk (.mk o t xs) (.mk o2 t2 xs2) b) = w := by simp [stepW, h0]
          rw [hst] at hnext
          rw [h0]
          repeat' ((conv => whnf); first | refine CallVC.pureF hto rfl ?_ | refine CallVC.pureF hbo rfl ?_ | refine ⟨rfl, encC (.mk kk (.mk o t xs) (.mk o2 t2 xs2) b), ⟨by omega, encCs_get hg⟩, ?_⟩ | refine splitB_t rfl ?_ | refine splitB_f rfl ?_)
          all_goals (try (conv => whnf))
          all_goals (rw [IntWalk.i64_in _ (by omega)]; exact hnext)
        · obtain ⟨ty, er, hty⟩ := ofT_tup (.mk o t xs)
          rw [hty] at hto
          rw [h0]
          have hst : stepW w (.mk kk (.mk o t xs) (.mk o2 t2 xs2) b) = if w = 0 then 200 else w := by simp [stepW, h0]
          rw [hst] at hnext
          by_cases hwz : w = 0
          · subst hwz
            repeat' ((conv => whnf); first | refine CallVC.pureF hto rfl ?_ | refine CallVC.pureF hbo rfl ?_ | refine ⟨rfl, encC (.mk kk (.mk o t xs) (.mk o2 t2 xs2) b), ⟨by omega, encCs_get hg⟩, ?_⟩ | refine splitB_t rfl ?_ | refine splitB_f rfl ?_)
            all_goals (try (conv => whnf))
            all_goals (rw [IntWalk.i64_in _ (by omega)]; exact hnext)
          · rw [if_neg hwz] at hnext
            repeat' ((conv => whnf); first | refine CallVC.pureF hto rfl ?_ | refine CallVC.pureF hbo rfl ?_ | refine ⟨rfl, encC (.mk kk (.mk o t xs) (.mk o2 t2 xs2) b), ⟨by omega, encCs_get hg⟩, ?_⟩ | refine splitB_t rfl ?_ | refine splitB_f (beq_eq_false_iff_ne.2 hwz) ?_ | refine splitB_f rfl ?_)
            all_goals (try (conv => whnf))
            all_goals (rw [IntWalk.i64_in _ (by omega)]; exact hnext)
        · obtain ⟨ty, er, hty⟩ := ofT_tup (.mk o t xs)
          rw [hty] at hto
          rw [h0]
          have hst : stepW w (.mk kk (.mk o t xs) (.mk o2 t2 xs2) b) = 151 := by simp [stepW, h0]
          rw [hst] at hnext
          repeat' ((conv => whnf); first | refine CallVC.pureF hto rfl ?_ | refine CallVC.pureF hbo rfl ?_ | refine ⟨rfl, encC (.mk kk (.mk o t xs) (.mk o2 t2 xs2) b), ⟨by omega, encCs_get hg⟩, ?_⟩ | refine splitB_t rfl ?_ | refine splitB_f rfl ?_)
          all_goals (try (conv => whnf))
          all_goals (rw [IntWalk.i64_in _ (by omega)]; exact hnext)
    exact key l 0 0 rfl (by omega) (eachW_all l)

end Go.Proofs.Ytaanmljlbhkonaa.AD
