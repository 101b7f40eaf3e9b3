/- Chapter 20: clauses: may they be, and are they right; the law TypesClauses of the code. -/
import Derived.Test.YtaanmljlbhkonaaT11
namespace Go.Proofs.Ytaanmljlbhkonaa.AD
open Go.Proofs
set_option linter.unusedVariables false
set_option linter.unusedSimpArgs false
set_option maxRecDepth 100000

theorem zero_spec (e : Ex) : pureF Try.prog 51 [.p (enc e)] (.p (.bool (zeroE e))) := by
  obtain ⟨o, t, xs⟩ := e
  have he := encs_len xs
  refine pureF_of f51_ok fun H => ?_
  repeat' ((conv => whnf); first | refine splitB_t rfl ?_ | refine splitB_f rfl ?_ | (first | refine splitB_t rfl ?_ | refine splitB_f rfl ?_ | refine splitB_dec (fun h => ?_) (fun h => ?_) | refine splitB_eq (fun h => ?_) (fun h => ?_) | refine splitB_ne (fun h => ?_) (fun h => ?_) | refine splitB_intro (fun h => ?_) (fun h => ?_)))
  all_goals (try (conv => whnf))
  all_goals (refine ⟨congrArg (fun b => AV.p (PV.bool b)) ?_, rfl⟩; simp only [zeroE, eqS, he])
  · rw [decide_eq_true ‹o = 0›, beq_iff_eq.2 ‹t.toList = _›]
    cases xs with
    | nil => rfl
    | cons a r => simp; omega
  · rw [beq_eq_false_iff_ne.2 ‹¬t.toList = _›]; simp
  · rw [decide_eq_false ‹¬o = 0›]; rfl

theorem checkC_k (k : Int) (t v : Ex) (b : List Cl) :
    (k = 1 → checkC (.mk k t v b) = ((zeroE v && decide (b.length = 0)) && mayE t)) ∧ (k = 2 → checkC (.mk k t v b) = ((mayE v && decide (b.length = 0)) && mayE t)) ∧ (k = 3 → checkC (.mk k t v b) = ((zeroE v && checkL b) && mayE t)) ∧ ((k < 1 ∨ k > 3) → checkC (.mk k t v b) = false) := by
  refine ⟨fun h => ?_, fun h => ?_, fun h => ?_, fun h => ?_⟩
  · subst h; rfl
  · subst h; rfl
  · subst h; rfl
  · rw [checkC, if_neg (by omega), if_neg (by omega), if_neg (by omega)]; rfl

theorem refCheck_ind (l : List Cl) (hl : (l.length : Int) ≤ 9223372036854775807) (hf : ∀ c, c ∈ l → FitsC c) (ih : ∀ k t v b, Cl.mk k t v b ∈ l → pureF Try.prog 29 [.p (.list 8 (encCs b))] (.p (.int .i64 (errT (checkL b))))) :
    pureF Try.prog 29 [.p (.list 8 (encCs l))] (.p (.int .i64 (errT (checkL l)))) := by
  have he := encCs_len l
  refine pureF_of f29_ok fun H => ?_
  (conv => whnf)
  intro R hR
  have key : ∀ (rest : List Cl) (i : Nat), l.drop i = rest → checkL l = checkL rest → R [(0, .p (.list 8 (encCs l))), (3, .p (.int .i64 i))] H [] := by
    intro rest
    induction rest with
    | nil =>
      intro i hd hq
      have hl := drop_nil hd
      refine hR _ _ _ ?_
      (conv => whnf)
      refine splitB_f (decide_eq_false (by omega)) ?_
      exact ⟨by rw [hq]; rfl, rfl⟩
    | cons c r ihr =>
      intro i hd hq
      obtain ⟨hg, hd', hi⟩ := drop_cons hd
      have hmem := List.mem_of_getElem? hg
      have hfc := hf c hmem
      obtain ⟨k, ⟨o, t, xs⟩, ⟨o2, t2, xs2⟩, b⟩ := c
      have ihc := ih _ _ _ _ hmem
      cases hfc with
      | mk _ _ _ _ hk hft hfv hb _ =>
      have hmt := May_spec _ hft
      have hmv := May_spec _ hfv
      have hz := zero_spec (.mk o2 t2 xs2)
      have hex := encs_len xs2
      have heb := encCs_len b
      refine hR _ _ _ ?_
      (conv => whnf)
      refine splitB_t (decide_eq_true (by omega)) ?_
      (conv => whnf)
      refine ⟨rfl, encC (.mk k (.mk o t xs) (.mk o2 t2 xs2) b), ⟨by omega, encCs_get hg⟩, ?_⟩
      have hq2 : checkL l = (checkC (.mk k (.mk o t xs) (.mk o2 t2 xs2) b) && checkL r) := hq
      have bad : checkC (.mk k (.mk o t xs) (.mk o2 t2 xs2) b) = false → errT (checkL l) = 151 := fun e => by rw [hq2, e]; rfl
      have good : checkC (.mk k (.mk o t xs) (.mk o2 t2 xs2) b) = true → checkL l = checkL r := fun e => by rw [hq2, e]; rfl
      have hnil : b.length = 0 → checkL b = true := fun h => by rw [List.length_eq_zero_iff.1 h]; rfl
      obtain ⟨c1, c2, c3, c4⟩ := checkC_k k (.mk o t xs) (.mk o2 t2 xs2) b
      have hlz : ¬ ((encCs b).length : Int) > 0 → decide (b.length = 0) = true := fun h => decide_eq_true (by omega)
      have hlp : ((encCs b).length : Int) > 0 → decide (b.length = 0) = false := fun h => decide_eq_false (by omega)
      rcases (show k = 1 ∨ k = 2 ∨ k = 3 ∨ (k < 1 ∨ k > 3) by omega) with rfl | rfl | rfl | hk'
      · have hchk := c1 rfl
        clear c1 c2 c3 c4
        cases hcb : checkL b
        all_goals rw [hcb] at ihc
        all_goals repeat' ((conv => whnf); first | refine CallVC.pureF hmt rfl ?_ | refine CallVC.pureF hmv rfl ?_ | refine CallVC.pureF hz rfl ?_ | refine CallVC.pureF ihc rfl ?_ | refine splitB_t rfl ?_ | refine splitB_f rfl ?_ | (first | refine splitB_t rfl ?_ | refine splitB_f rfl ?_ | refine splitB_dec (fun h => ?_) (fun h => ?_) | refine splitB_eq (fun h => ?_) (fun h => ?_) | refine splitB_ne (fun h => ?_) (fun h => ?_) | refine splitB_intro (fun h => ?_) (fun h => ?_)))
        all_goals (try (conv => whnf))
        all_goals first
          | (exfalso; omega)
          | exact ⟨congrArg (fun n => AV.p (PV.int .i64 n)) (bad hchk).symm, rfl⟩
          | exact ⟨congrArg (fun n => AV.p (PV.int .i64 n)) (bad (by rw [hchk]; clear hR ihr; simp_all)).symm, rfl⟩
          | (rw [IntWalk.i64_in _ (by omega)]; exact ihr (i + 1) hd' (good (by rw [hchk]; clear hR ihr; simp_all)))
      · have hchk := c2 rfl
        clear c1 c2 c3 c4
        cases hcb : checkL b
        all_goals rw [hcb] at ihc
        all_goals repeat' ((conv => whnf); first | refine CallVC.pureF hmt rfl ?_ | refine CallVC.pureF hmv rfl ?_ | refine CallVC.pureF hz rfl ?_ | refine CallVC.pureF ihc rfl ?_ | refine splitB_t rfl ?_ | refine splitB_f rfl ?_ | (first | refine splitB_t rfl ?_ | refine splitB_f rfl ?_ | refine splitB_dec (fun h => ?_) (fun h => ?_) | refine splitB_eq (fun h => ?_) (fun h => ?_) | refine splitB_ne (fun h => ?_) (fun h => ?_) | refine splitB_intro (fun h => ?_) (fun h => ?_)))
        all_goals (try (conv => whnf))
        all_goals first
          | (exfalso; omega)
          | exact ⟨congrArg (fun n => AV.p (PV.int .i64 n)) (bad hchk).symm, rfl⟩
          | exact ⟨congrArg (fun n => AV.p (PV.int .i64 n)) (bad (by rw [hchk]; clear hR ihr; simp_all)).symm, rfl⟩
          | (rw [IntWalk.i64_in _ (by omega)]; exact ihr (i + 1) hd' (good (by rw [hchk]; clear hR ihr; simp_all)))
      · have hchk := c3 rfl
        clear c1 c2 c3 c4
        cases hcb : checkL b
        all_goals rw [hcb] at ihc
        all_goals repeat' ((conv => whnf); first | refine CallVC.pureF hmt rfl ?_ | refine CallVC.pureF hmv rfl ?_ | refine CallVC.pureF hz rfl ?_ | refine CallVC.pureF ihc rfl ?_ | refine splitB_t rfl ?_ | refine splitB_f rfl ?_ | (first | refine splitB_t rfl ?_ | refine splitB_f rfl ?_ | refine splitB_dec (fun h => ?_) (fun h => ?_) | refine splitB_eq (fun h => ?_) (fun h => ?_) | refine splitB_ne (fun h => ?_) (fun h => ?_) | refine splitB_intro (fun h => ?_) (fun h => ?_)))
        all_goals (try (conv => whnf))
        all_goals first
          | (exfalso; omega)
          | exact ⟨congrArg (fun n => AV.p (PV.int .i64 n)) (bad hchk).symm, rfl⟩
          | exact ⟨congrArg (fun n => AV.p (PV.int .i64 n)) (bad (by rw [hchk]; clear hR ihr; simp_all)).symm, rfl⟩
          | (rw [IntWalk.i64_in _ (by omega)]; exact ihr (i + 1) hd' (good (by rw [hchk]; clear hR ihr; simp_all)))
      · have hchk := c4 hk'
        clear c1 c2 c3 c4
        cases hcb : checkL b
        all_goals rw [hcb] at ihc
        all_goals repeat' ((conv => whnf); first | refine CallVC.pureF hmt rfl ?_ | refine CallVC.pureF hmv rfl ?_ | refine CallVC.pureF hz rfl ?_ | refine CallVC.pureF ihc rfl ?_ | refine splitB_t rfl ?_ | refine splitB_f rfl ?_ | (first | refine splitB_t rfl ?_ | refine splitB_f rfl ?_ | refine splitB_dec (fun h => ?_) (fun h => ?_) | refine splitB_eq (fun h => ?_) (fun h => ?_) | refine splitB_ne (fun h => ?_) (fun h => ?_) | refine splitB_intro (fun h => ?_) (fun h => ?_)))
        all_goals (try (conv => whnf))
        all_goals first
          | (exfalso; omega)
          | exact ⟨congrArg (fun n => AV.p (PV.int .i64 n)) (bad hchk).symm, rfl⟩
          | exact ⟨congrArg (fun n => AV.p (PV.int .i64 n)) (bad (by rw [hchk]; clear hR ihr; simp_all)).symm, rfl⟩
          | (rw [IntWalk.i64_in _ (by omega)]; exact ihr (i + 1) hd' (good (by rw [hchk]; clear hR ihr; simp_all)))
  exact key l 0 rfl rfl

theorem refCheck_all (c : Cl) : ∀ k t v b, c = .mk k t v b → FitsC c → pureF Try.prog 29 [.p (.list 8 (encCs b))] (.p (.int .i64 (errT (checkL b)))) := by
  induction c using Cl.ind with
  | h k t v b ih =>
    intro k' t' v' b' e hf
    cases e
    cases hf with
    | mk _ _ _ _ _ _ _ h1 h2 => exact refCheck_ind b h1 h2 fun k2 t2 v2 b2 hm => ih _ hm k2 t2 v2 b2 rfl (h2 _ hm)

theorem refCheck_spec (l : List Cl) (hl : (l.length : Int) ≤ 9223372036854775807) (hf : ∀ c, c ∈ l → FitsC c) : pureF Try.prog 29 [.p (.list 8 (encCs l))] (.p (.int .i64 (errT (checkL l)))) :=
  refCheck_ind l hl hf fun k t v b hm => refCheck_all _ k t v b rfl (hf _ hm)

/-! ### are they right -/
mutual
def rightC : Cl → Bool
  | .mk k t v b => decide (typeT t = 4) && ((!decide (k = 2) || decide (typeT v = 1)) && rightL b)
def rightL : List Cl → Bool
  | [] => true
  | a :: r => rightC a && rightL r
end
theorem rightL_all : ∀ l, rightL l = l.all rightC
  | [] => rfl
  | a :: r => by rw [rightL, rightL_all r]; rfl

/-- What checks is shaped. -/
theorem checkC_parts {k t v b} (h : checkC (.mk k t v b) = true) : Shaped t ∧ (k = 2 → Shaped v) ∧ checkL b = true := by
  simp only [checkC, Bool.and_eq_true] at h
  obtain ⟨h1, h2⟩ := h
  refine ⟨shaped_of _ h2, fun hk => ?_, ?_⟩
  · rw [if_pos hk, Bool.and_eq_true] at h1
    exact shaped_of _ h1.1
  · have hnil : b.length = 0 → checkL b = true := fun h => by rw [List.length_eq_zero_iff.1 h]; rfl
    split at h1
    · simp only [Bool.and_eq_true, decide_eq_true_eq] at h1; exact hnil h1.2
    · split at h1
      · simp only [Bool.and_eq_true] at h1; exact h1.2
      · split at h1
        · simp only [Bool.and_eq_true, decide_eq_true_eq] at h1; exact hnil h1.2
        · cases h1

theorem refRight_ind (l : List Cl) (hl : (l.length : Int) ≤ 9223372036854775807) (hc : checkL l = true) (ih : ∀ k t v b, Cl.mk k t v b ∈ l → pureF Try.prog 30 [.p (.list 8 (encCs b))] (.p (.bool (rightL b)))) :
    pureF Try.prog 30 [.p (.list 8 (encCs l))] (.p (.bool (rightL l))) := by
  have he := encCs_len l
  refine pureF_of f30_ok fun H => ?_
  (conv => whnf)
  intro R hR
  have key : ∀ (rest : List Cl) (i : Nat), l.drop i = rest → checkL rest = true → rightL l = rightL rest → R [(0, .p (.list 8 (encCs l))), (3, .p (.int .i64 i))] H [] := by
    intro rest
    induction rest with
    | nil =>
      intro i hd _ hq
      have hl := drop_nil hd
      refine hR _ _ _ ?_
      (conv => whnf)
      refine splitB_f (decide_eq_false (by omega)) ?_
      exact ⟨by rw [hq]; rfl, rfl⟩
    | cons c r ihr =>
      intro i hd hchk hq
      obtain ⟨hg, hd', hi⟩ := drop_cons hd
      have hmem := List.mem_of_getElem? hg
      obtain ⟨k, ⟨o, t, xs⟩, ⟨o2, t2, xs2⟩, b⟩ := c
      have ihc := ih _ _ _ _ hmem
      simp only [checkL, Bool.and_eq_true] at hchk
      obtain ⟨hc1, hc2⟩ := hchk
      obtain ⟨s1, s2, s3⟩ := checkC_parts hc1
      have ht := Type_spec _ s1
      refine hR _ _ _ ?_
      (conv => whnf)
      refine splitB_t (decide_eq_true (by omega)) ?_
      have hel : ∃ e, (0 ≤ (i : Int) ∧ (encCs l)[((i : Int)).toNat]? = some e) ∧ e = encC (.mk k (.mk o t xs) (.mk o2 t2 xs2) b) := ⟨_, ⟨by omega, encCs_get hg⟩, rfl⟩
      have hq2 : rightL l = (rightC (.mk k (.mk o t xs) (.mk o2 t2 xs2) b) && rightL r) := hq
      have hrc : rightC (.mk k (.mk o t xs) (.mk o2 t2 xs2) b) = (decide (typeT (.mk o t xs) = 4) && ((!decide (k = 2) || decide (typeT (.mk o2 t2 xs2) = 1)) && rightL b)) := rfl
      rcases (show k = 2 ∨ k ≠ 2 by omega) with rfl | hk2
      · have hv := Type_spec _ (s2 rfl)
        repeat' ((conv => whnf); first | refine CallVC.pureF ht rfl ?_ | refine CallVC.pureF hv rfl ?_ | refine CallVC.pureF ihc rfl ?_ | refine ⟨rfl, encC (.mk 2 (.mk o t xs) (.mk o2 t2 xs2) b), ⟨by omega, encCs_get hg⟩, ?_⟩ | refine splitB_t rfl ?_ | refine splitB_f rfl ?_ | (first | refine splitB_t rfl ?_ | refine splitB_f rfl ?_ | refine splitB_dec (fun h => ?_) (fun h => ?_) | refine splitB_eq (fun h => ?_) (fun h => ?_) | refine splitB_ne (fun h => ?_) (fun h => ?_) | refine splitB_intro (fun h => ?_) (fun h => ?_)))
        all_goals (try (conv => whnf))
        all_goals first
          | exact ⟨congrArg (fun n => AV.p (PV.bool n)) (by rw [hq2, hrc]; clear hR ihr; simp_all), rfl⟩
          | (rw [IntWalk.i64_in _ (by omega)]; exact ihr (i + 1) hd' hc2 (by rw [hq2, hrc]; clear hR ihr; simp_all))
      · repeat' ((conv => whnf); first | refine CallVC.pureF ht rfl ?_ | refine CallVC.pureF ihc rfl ?_ | refine ⟨rfl, encC (.mk k (.mk o t xs) (.mk o2 t2 xs2) b), ⟨by omega, encCs_get hg⟩, ?_⟩ | refine splitB_f (beq_eq_false_iff_ne.2 hk2) ?_ | refine splitB_t rfl ?_ | refine splitB_f rfl ?_ | (first | refine splitB_t rfl ?_ | refine splitB_f rfl ?_ | refine splitB_dec (fun h => ?_) (fun h => ?_) | refine splitB_eq (fun h => ?_) (fun h => ?_) | refine splitB_ne (fun h => ?_) (fun h => ?_) | refine splitB_intro (fun h => ?_) (fun h => ?_)))
        all_goals (try (conv => whnf))
        all_goals first
          | exact ⟨congrArg (fun n => AV.p (PV.bool n)) (by rw [hq2, hrc]; clear hR ihr; simp_all), rfl⟩
          | (rw [IntWalk.i64_in _ (by omega)]; exact ihr (i + 1) hd' hc2 (by rw [hq2, hrc]; clear hR ihr; simp_all))
  exact key l 0 rfl hc rfl

theorem checkL_mem : ∀ l : List Cl, checkL l = true → ∀ c, c ∈ l → checkC c = true := by
  intro l
  induction l with
  | nil => intro _ c hc; cases hc
  | cons a r ih =>
    intro h c hc
    simp only [checkL, Bool.and_eq_true] at h
    cases hc with
    | head => exact h.1
    | tail _ hc => exact ih h.2 c hc

theorem refRight_all (c : Cl) : FitsC c → ∀ k t v b, c = .mk k t v b → checkL b = true → pureF Try.prog 30 [.p (.list 8 (encCs b))] (.p (.bool (rightL b))) := by
  induction c using Cl.ind with
  | h k t v b ih =>
    intro hf k' t' v' b' e hc
    cases e
    cases hf with
    | mk _ _ _ _ _ _ _ h1 h2 => exact refRight_ind b h1 hc fun k2 t2 v2 b2 hm => ih _ hm (h2 _ hm) k2 t2 v2 b2 rfl (checkC_parts (checkL_mem b hc _ hm)).2.2
theorem refRight_spec (l : List Cl) (hl : (l.length : Int) ≤ 9223372036854775807) (hf : ∀ c, c ∈ l → FitsC c) (hc : checkL l = true) : pureF Try.prog 30 [.p (.list 8 (encCs l))] (.p (.bool (rightL l))) :=
  refRight_ind l hl hc fun k t v b hm => refRight_all _ (hf _ hm) k t v b rfl (checkC_parts (checkL_mem l hc _ hm)).2.2

/-! ### the program's -/
theorem IndexFuncC_spec (l : List Cl) (hx : (l.length : Int) ≤ 9223372036854775807) (p : Cl → Bool) (f : Nat) (hf : enters Try.prog f = true) (hp : ∀ a, a ∈ l → pureF Try.prog f [.p (encC a)] (.p (.bool (p a)))) :
    pureF Try.prog 49 [.p (.list 8 (encCs l)), .p (.fn (.func f))] (.p (.int .i64 (idxF p l))) := by
  refine pureF_of f49_ok fun H => ?_
  (conv => whnf)
  intro R hR
  have he := encCs_len l
  have key : ∀ (rest : List Cl) (i : Nat), l.drop i = rest → idxF p l = (if idxF p rest = -1 then -1 else idxF p rest + i) → R [(0, .p (.list 8 (encCs l))), (1, .p (.fn (.func f))), (7, .p (.int .i64 (encCs l).length)), (8, .p (.int .i64 i))] H [] := by
    intro rest
    induction rest with
    | nil =>
      intro i hd hq
      have hl := drop_nil hd
      refine hR _ _ _ ?_
      (conv => whnf)
      refine splitB_f (decide_eq_false (by omega)) ?_
      exact ⟨by rw [hq]; rfl, rfl⟩
    | cons a r ih =>
      intro i hd hq
      obtain ⟨hg, hd', hi⟩ := drop_cons hd
      have hpa := hp a (List.mem_of_getElem? hg)
      refine hR _ _ _ ?_
      (conv => whnf)
      refine splitB_t (decide_eq_true (by omega)) ?_
      (conv => whnf)
      obtain ⟨kk, ⟨o, t, xs⟩, ⟨o2, t2, xs2⟩, b⟩ := a
      refine ⟨rfl, encC (.mk kk (.mk o t xs) (.mk o2 t2 xs2) b), ⟨by omega, encCs_get hg⟩, ?_⟩
      (conv => whnf)
      refine ⟨hf, ?_⟩
      refine CallVC.pureF hpa rfl ?_
      (conv => whnf)
      refine splitB_intro (fun h => ?_) (fun h => ?_)
      · exact ⟨by rw [hq]; simp [idxF, h], rfl⟩
      · (conv => whnf)
        rw [IntWalk.i64_in _ (by omega)]
        refine ih (i + 1) hd' ?_
        rw [hq]
        simp only [idxF, h, Bool.false_eq_true, if_false]
        have := idxF_ge p r
        by_cases h3 : idxF p r = -1
        · rw [if_pos h3, if_pos rfl, if_pos h3]
        · rw [if_neg h3, if_neg (by omega), if_neg h3]; push_cast; omega
  refine key l 0 rfl ?_
  by_cases h3 : idxF p l = -1
  · rw [if_pos h3]; exact h3
  · rw [if_neg h3]; simp

theorem ContainsFuncC_spec (l : List Cl) (hx : (l.length : Int) ≤ 9223372036854775807) (p : Cl → Bool) (f : Nat) (hf : enters Try.prog f = true) (hp : ∀ a, a ∈ l → pureF Try.prog f [.p (encC a)] (.p (.bool (p a)))) :
    pureF Try.prog 27 [.p (.list 8 (encCs l)), .p (.fn (.func f))] (.p (.bool (l.any p))) := by
  refine pureF_of f27_ok fun H => ?_
  (conv => whnf)
  refine CallVC.pureF (IndexFuncC_spec l hx p f hf hp) rfl ?_
  exact ⟨by rw [← idxF_any], rfl⟩

theorem right_spec (c : Cl) : FitsC c → checkC c = true → pureF Try.prog 50 [.p (encC c)] (.p (.bool (rightC c))) := by
  induction c using Cl.ind with
  | h k t v b ih =>
    intro hf hc
    cases hf with
    | mk _ _ _ _ hk hft hfv hb hbs =>
    obtain ⟨s1, s2, s3⟩ := checkC_parts hc
    have hany : pureF Try.prog 27 [.p (.list 8 (encCs b)), .p (.fn (.func 28))] (.p (.bool (b.any fun a => !rightC a))) :=
      ContainsFuncC_spec b hb (fun a => !rightC a) 28 (by kernel_rfl) fun a ha => by
        have h := ih a ha (hbs a ha) (checkL_mem b s3 a ha)
        refine pureF_of f28_ok fun H => ?_
        obtain ⟨kk, ⟨o, t, xs⟩, ⟨o2, t2, xs2⟩, b⟩ := a
        (conv => whnf)
        refine CallVC.pureF h rfl ?_
        exact ⟨rfl, rfl⟩
    have hall : (!(b.any fun a => !rightC a)) = rightL b := by rw [rightL_all, List.not_any_eq_all_not]; simp
    have ht := typed_spec _ s1
    refine pureF_of f50_ok fun H => ?_
    obtain ⟨o, t, xs⟩ := t
    obtain ⟨o2, t2, xs2⟩ := v
    have hrc : rightC (.mk k (.mk o t xs) (.mk o2 t2 xs2) b) = (decide (typeT (.mk o t xs) = 4) && ((!decide (k = 2) || decide (typeT (.mk o2 t2 xs2) = 1)) && (!(b.any fun a => !rightC a)))) := by rw [hall]; rfl
    rcases (show k = 2 ∨ k ≠ 2 by omega) with rfl | hk2
    · have hv := typed_spec _ (s2 rfl)
      repeat' ((conv => whnf); first | refine CallVC.pureF ht rfl ?_ | refine CallVC.pureF hv rfl ?_ | refine CallVC.pureF hany rfl ?_ | refine splitB_t rfl ?_ | refine splitB_f rfl ?_ | (first | refine splitB_t rfl ?_ | refine splitB_f rfl ?_ | refine splitB_dec (fun h => ?_) (fun h => ?_) | refine splitB_eq (fun h => ?_) (fun h => ?_) | refine splitB_ne (fun h => ?_) (fun h => ?_) | refine splitB_intro (fun h => ?_) (fun h => ?_)))
      all_goals (try (conv => whnf))
      all_goals exact ⟨congrArg (fun n => AV.p (PV.bool n)) (by rw [hrc]; simp_all), rfl⟩
    · repeat' ((conv => whnf); first | refine CallVC.pureF ht rfl ?_ | refine CallVC.pureF hany rfl ?_ | refine splitB_t (bne_iff_ne.2 hk2) ?_ | refine splitB_t rfl ?_ | refine splitB_f rfl ?_ | (first | refine splitB_t rfl ?_ | refine splitB_f rfl ?_ | refine splitB_dec (fun h => ?_) (fun h => ?_) | refine splitB_eq (fun h => ?_) (fun h => ?_) | refine splitB_ne (fun h => ?_) (fun h => ?_) | refine splitB_intro (fun h => ?_) (fun h => ?_)))
      all_goals (try (conv => whnf))
      all_goals exact ⟨congrArg (fun n => AV.p (PV.bool n)) (by rw [hrc]; simp_all), rfl⟩

theorem wrong_spec (c : Cl) (hf : FitsC c) (hc : checkC c = true) : pureF Try.prog 28 [.p (encC c)] (.p (.bool (!rightC c))) := by
  have h := right_spec c hf hc
  refine pureF_of f28_ok fun H => ?_
  obtain ⟨kk, ⟨o, t, xs⟩, ⟨o2, t2, xs2⟩, b⟩ := c
  (conv => whnf)
  refine CallVC.pureF h rfl ?_
  exact ⟨rfl, rfl⟩

/-- What is told of clauses. -/
def clsT (l : List Cl) : Int := if checkL l then (if rightL l then 0 else 200) else 151

theorem refClauses_spec (l : List Cl) (hl : (l.length : Int) ≤ 9223372036854775807) (hf : ∀ c, c ∈ l → FitsC c) : pureF Try.prog 19 [.p (.list 8 (encCs l))] (.p (.int .i64 (clsT l))) := by
  have hc := refCheck_spec l hl hf
  refine pureF_of f19_ok fun H => ?_
  cases h : checkL l with
  | false =>
    rw [h] at hc
    (conv => whnf)
    refine CallVC.pureF hc rfl ?_
    (conv => whnf)
    refine splitB_f rfl ?_
    exact ⟨by rw [clsT, h]; rfl, rfl⟩
  | true =>
    have hr := refRight_spec l hl hf h
    rw [h] at hc
    (conv => whnf)
    refine CallVC.pureF hc rfl ?_
    (conv => whnf)
    refine splitB_t rfl ?_
    (conv => whnf)
    refine CallVC.pureF hr rfl ?_
    cases h2 : rightL l with
    | false =>
      (conv => whnf)
      refine splitB_t rfl ?_
      exact ⟨by rw [clsT, h, h2]; rfl, rfl⟩
    | true =>
      (conv => whnf)
      refine splitB_f rfl ?_
      exact ⟨by rw [clsT, h, h2]; rfl, rfl⟩

theorem Clauses_spec (l : List Cl) (hl : (l.length : Int) ≤ 9223372036854775807) (hf : ∀ c, c ∈ l → FitsC c) : pureF Try.prog 18 [.p (.list 8 (encCs l))] (.p (.int .i64 (clsT l))) := by
  have hc := Check_spec l hl hf
  refine pureF_of f18_ok fun H => ?_
  cases h : checkL l with
  | false =>
    rw [h] at hc
    (conv => whnf)
    refine CallVC.pureF hc rfl ?_
    (conv => whnf)
    refine splitB_t rfl ?_
    exact ⟨by rw [clsT, h]; rfl, rfl⟩
  | true =>
    have hr := ContainsFuncC_spec l hl (fun a => !rightC a) 28 (by kernel_rfl) fun a ha => wrong_spec a (hf a ha) (checkL_mem l h a ha)
    have hall : (l.any fun a => !rightC a) = !rightL l := by rw [rightL_all, List.not_all_eq_any_not]
    rw [h] at hc
    rw [hall] at hr
    (conv => whnf)
    refine CallVC.pureF hc rfl ?_
    (conv => whnf)
    refine splitB_f rfl ?_
    (conv => whnf)
    refine CallVC.pureF hr rfl ?_
    cases h2 : rightL l with
    | false =>
      (conv => whnf)
      refine splitB_t rfl ?_
      exact ⟨by rw [clsT, h, h2]; rfl, rfl⟩
    | true =>
      (conv => whnf)
      refine splitB_f rfl ?_
      exact ⟨by rw [clsT, h, h2]; rfl, rfl⟩

theorem TypesClauses_spec (l : List Cl) (hl : (l.length : Int) ≤ 9223372036854775807) (hf : ∀ c, c ∈ l → FitsC c) : pureF Try.prog 5 [.p (.list 8 (encCs l))] (.p (.bool true)) := by
  refine pureF_of f5_ok fun H => ?_
  have hs := Sizes_spec l 20000 (by omega) (by omega)
  have hr := refClauses_spec l hl hf
  have ho := (Clauses_spec l hl hf).args (.p _ _ _ _ (encTCs_le l) .nil)
  have hw := works_spec
  (conv => whnf)
  refine CallVC.pureF hs rfl ?_
  (conv => whnf)
  refine splitB_dec (fun h => ?_) (fun h => ?_)
  · (conv => whnf)
    refine CallVC.pureF hw rfl ?_
    exact ⟨rfl, rfl⟩
  · obtain ⟨few1, few2⟩ := fewCs_of l (by omega)
    (conv => whnf)
    refine CallVC.pureF (LentClauses_spec l few1 few2) rfl ?_
    (conv => whnf)
    refine CallVC.pureF ho rfl ?_
    (conv => whnf)
    refine CallVC.pureF hr rfl ?_
    (conv => whnf)
    refine splitB_t (beq_self_eq_true _) ?_
    (conv => whnf)
    refine CallVC.pureF (KeptClauses_spec l few1 few2) rfl ?_
    (conv => whnf)
    refine splitB_t rfl ?_
    (conv => whnf)
    refine CallVC.pureF hw rfl ?_
    exact ⟨rfl, rfl⟩

end Go.Proofs.Ytaanmljlbhkonaa.AD
