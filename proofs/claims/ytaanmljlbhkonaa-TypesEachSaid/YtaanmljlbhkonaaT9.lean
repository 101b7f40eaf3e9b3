/- Chapter 20: clauses; may they be; the type of any tree, or the error. -/
import Derived.Test.YtaanmljlbhkonaaT7
import Derived.Test.YtaanmljlbhkonaaT8
namespace Go.Proofs.Ytaanmljlbhkonaa.AD
open Go.Proofs
set_option linter.unusedVariables false
set_option linter.unusedSimpArgs false
set_option maxRecDepth 100000

inductive Cl where
  | mk (kind : Int) (test value : Ex) (block : List Cl)

theorem Cl.ind {motive : Cl → Prop} (h : ∀ k t v b, (∀ a, a ∈ b → motive a) → motive (.mk k t v b)) (c : Cl) : motive c := by
  match c with
  | .mk k t v b => exact h k t v b fun a ha => Cl.ind h a
termination_by SizeOf.sizeOf c
decreasing_by
  have := List.sizeOf_lt_of_mem ha
  simp only [Cl.mk.sizeOf_spec]
  omega

mutual
def encC : Cl → PV
  | .mk k (.mk o t xs) (.mk o2 t2 xs2) b => .agg [.int .u8 k, .int .u8 o, .str t, .list 3 (encs xs), .int .u8 o2, .str t2, .list 3 (encs xs2), .list 8 (encCs b)]
def encCs : List Cl → List PV
  | [] => []
  | a :: r => encC a :: encCs r
end
theorem encCs_map : ∀ l, encCs l = l.map encC
  | [] => rfl
  | a :: r => by rw [encCs, encCs_map r]; rfl
theorem encCs_len (l : List Cl) : (encCs l).length = l.length := by rw [encCs_map, List.length_map]
theorem encCs_get {l : List Cl} {i : Nat} {a : Cl} (h : l[i]? = some a) : (encCs l)[i]? = some (encC a) := by rw [encCs_map, List.getElem?_map, h]; rfl

inductive FitsC : Cl → Prop
  | mk (k : Int) (t v : Ex) (b : List Cl) : 0 ≤ k → Fits t → Fits v → (b.length : Int) ≤ 9223372036854775807 → (∀ a, a ∈ b → FitsC a) → FitsC (.mk k t v b)

def zeroE : Ex → Bool
  | .mk o t xs => decide (o = 0) && (eqS t ⟨#[]⟩ && decide (xs.length = 0))
mutual
def checkC : Cl → Bool
  | .mk k t v b => (if k = 2 then mayE v && decide (b.length = 0) else if k = 3 then zeroE v && checkL b else if k = 1 then zeroE v && decide (b.length = 0) else false) && mayE t
def checkL : List Cl → Bool
  | [] => true
  | a :: r => checkC a && checkL r
end
def errT (b : Bool) : Int := if b then 0 else 151
theorem errT_zero (b : Bool) : errT b = 0 ↔ b = true := by cases b <;> simp [errT]

theorem Check_ind (l : List Cl) (hl : (l.length : Int) ≤ 9223372036854775807) (hf : ∀ c, c ∈ l → FitsC c) (ih : ∀ k t v b, Cl.mk k t v b ∈ l → pureF Try.prog 14 [.p (.list 8 (encCs b))] (.p (.int .i64 (errT (checkL b))))) :
    pureF Try.prog 14 [.p (.list 8 (encCs l))] (.p (.int .i64 (errT (checkL l)))) := by
  have he := encCs_len l
  refine pureF_of f14_ok fun H => ?_
  (conv => whnf)
  intro R hR
  have key : ∀ (rest : List Cl) (i : Nat), l.drop i = rest → checkL l = checkL rest → R [(7, .p (.list 8 (encCs l))), (8, .p (.int .i64 (encCs l).length)), (9, .p (.int .i64 i))] H [] := by
    intro rest
    induction rest with
    | nil =>
      intro i hd hq
      have hl := drop_nil hd
      refine hR _ _ _ ?_
      (conv => whnf)
      refine splitB_f (decide_eq_false (by omega)) ?_
      exact ⟨by rw [hq]; rfl, rfl⟩
    | cons c r ihr =>
      intro i hd hq
      obtain ⟨hg, hd', hi⟩ := drop_cons hd
      have hmem := List.mem_of_getElem? hg
      have hfc := hf c hmem
      obtain ⟨k, ⟨o, t, xs⟩, ⟨o2, t2, xs2⟩, b⟩ := c
      have ihc := ih _ _ _ _ hmem
      cases hfc with
      | mk _ _ _ _ hk hft hfv hb _ =>
      have hmt := may_spec _ hft
      have hmv := may_spec _ hfv
      have hex := encs_len xs2
      have heb := encCs_len b
      refine hR _ _ _ ?_
      (conv => whnf)
      refine splitB_t (decide_eq_true (by omega)) ?_
      (conv => whnf)
      refine ⟨rfl, encC (.mk k (.mk o t xs) (.mk o2 t2 xs2) b), ⟨by omega, encCs_get hg⟩, ?_⟩
      have hq2 : checkL l = (checkC (.mk k (.mk o t xs) (.mk o2 t2 xs2) b) && checkL r) := hq
      have bad : checkC (.mk k (.mk o t xs) (.mk o2 t2 xs2) b) = false → errT (checkL l) = 151 := fun e => by rw [hq2, e]; rfl
      have good : checkC (.mk k (.mk o t xs) (.mk o2 t2 xs2) b) = true → checkL l = checkL r := fun e => by rw [hq2, e]; rfl
      have hchk : checkC (.mk k (.mk o t xs) (.mk o2 t2 xs2) b) = ((if k = 2 then mayE (.mk o2 t2 xs2) && decide (b.length = 0) else if k = 3 then (decide (o2 = 0) && (eqS t2 ⟨#[]⟩ && decide (xs2.length = 0))) && checkL b else if k = 1 then (decide (o2 = 0) && (eqS t2 ⟨#[]⟩ && decide (xs2.length = 0))) && decide (b.length = 0) else false) && mayE (.mk o t xs)) := rfl
      repeat' ((conv => whnf); first | refine CallVC.pureF hmt rfl ?_ | refine CallVC.pureF hmv rfl ?_ | refine CallVC.pureF ihc rfl ?_ | refine splitB_t rfl ?_ | refine splitB_f rfl ?_ | (first | refine splitB_t rfl ?_ | refine splitB_f rfl ?_ | refine splitB_dec (fun h => ?_) (fun h => ?_) | refine splitB_eq (fun h => ?_) (fun h => ?_) | refine splitB_ne (fun h => ?_) (fun h => ?_) | refine splitB_intro (fun h => ?_) (fun h => ?_)))
      all_goals (try (conv => whnf))
      all_goals first
        | exact ⟨congrArg (fun n => AV.p (PV.int .i64 n)) (bad (by rw [hchk]; simp_all [eqS, errT_zero])).symm, rfl⟩
        | (rw [IntWalk.i64_in _ (by omega)]; exact ihr (i + 1) hd' (good (by rw [hchk]; simp_all [eqS, errT_zero])))
  exact key l 0 rfl rfl


theorem Check_all (c : Cl) : ∀ k t v b, c = .mk k t v b → FitsC c → pureF Try.prog 14 [.p (.list 8 (encCs b))] (.p (.int .i64 (errT (checkL b)))) := by
  induction c using Cl.ind with
  | h k t v b ih =>
    intro k' t' v' b' e hf
    cases e
    cases hf with
    | mk _ _ _ _ _ _ _ h1 h2 => exact Check_ind b h1 h2 fun k2 t2 v2 b2 hm => ih _ hm k2 t2 v2 b2 rfl (h2 _ hm)

theorem Check_spec (l : List Cl) (hl : (l.length : Int) ≤ 9223372036854775807) (hf : ∀ c, c ∈ l → FitsC c) : pureF Try.prog 14 [.p (.list 8 (encCs l))] (.p (.int .i64 (errT (checkL l)))) :=
  Check_ind l hl hf fun k t v b hm => Check_all _ k t v b rfl (hf _ hm)

/-- The type of any tree, or the error. -/
def ofT (e : Ex) : PV := if mayE e then (if typeT e = 0 then .tup [.int .u8 0, .int .i64 200] else .tup [.int .u8 (typeT e), .int .i64 0]) else .tup [.int .u8 0, .int .i64 151]

theorem ofT_tup (e : Ex) : ∃ a b, ofT e = .tup [.int .u8 a, .int .i64 b] := by
  unfold ofT
  split
  · split <;> exact ⟨_, _, rfl⟩
  · exact ⟨_, _, rfl⟩

theorem refOf_spec (e : Ex) (hf : Fits e) : pureF Try.prog 11 [.p (enc e)] (.p (ofT e)) := by
  refine pureF_of f11_ok fun H => ?_
  have hm := May_spec e hf
  obtain ⟨o, t, xs⟩ := e
  (conv => whnf)
  refine CallVC.pureF hm rfl ?_
  (conv => whnf)
  refine splitB_intro (fun h => ?_) (fun h => ?_)
  · have h : mayE (.mk o t xs) = false := by simpa using h
    exact ⟨by rw [ofT, h]; rfl, rfl⟩
  · have h : mayE (.mk o t xs) = true := by simpa using h
    (conv => whnf)
    refine CallVC.pureF (Type_spec _ (shaped_of _ h)) rfl ?_
    (conv => whnf)
    refine splitB_eq (fun h2 => ?_) (fun h2 => ?_)
    · exact ⟨by rw [ofT, if_pos h, if_pos h2], rfl⟩
    · exact ⟨by rw [ofT, if_pos h, if_neg h2], rfl⟩

theorem Of_spec (e : Ex) (hf : Fits e) : pureF Try.prog 12 [.p (enc e)] (.p (ofT e)) := by
  refine pureF_of f12_ok fun H => ?_
  have hc := Check_spec [.mk 1 e (.mk 0 ⟨#[]⟩ []) []] (by simp) fun c hc => by
    rw [List.mem_singleton] at hc
    subst hc
    exact .mk _ _ _ _ (by decide) hf (.mk _ _ _ (by decide) (by decide) (by decide) fun a ha => by cases ha) (by decide) fun a ha => by cases ha
  have hz : checkL [.mk 1 e (.mk 0 ⟨#[]⟩ []) []] = mayE e := by
    simp [checkL, checkC, zeroE, eqS]
  rw [hz] at hc
  obtain ⟨o, t, xs⟩ := e
  have hle : PV.le (.list 8 [.agg [.int .u8 1, .int .u8 o, .str t, .list 3 (encs xs), .int .u8 0, .str ⟨#[]⟩, .nils, .nils]]) (.list 8 (encCs [.mk 1 (.mk o t xs) (.mk 0 ⟨#[]⟩ []) []])) :=
    .list (.cons _ _ _ _ (.agg (.cons _ _ _ _ (.refl _) (.cons _ _ _ _ (.refl _) (.cons _ _ _ _ (.refl _) (.cons _ _ _ _ (.refl _) (.cons _ _ _ _ (.refl _) (.cons _ _ _ _ (.refl _) (.cons _ _ _ _ (.nils 3) (.cons _ _ _ _ (.nils 8) .nil))))))))) .nil)
  (conv => whnf)
  refine CallVC.pureF (hc.args (.p _ _ _ _ hle .nil)) rfl ?_
  (conv => whnf)
  cases h : mayE (.mk o t xs) with
  | false =>
    refine splitB_t rfl ?_
    exact ⟨by rw [ofT, h]; rfl, rfl⟩
  | true =>
    refine splitB_f rfl ?_
    (conv => whnf)
    refine CallVC.pureF (typed_spec _ (shaped_of _ h)) rfl ?_
    (conv => whnf)
    refine splitB_eq (fun h2 => ?_) (fun h2 => ?_)
    · exact ⟨by rw [ofT, if_pos h, if_pos h2], rfl⟩
    · exact ⟨by rw [ofT, if_pos h, if_neg h2], rfl⟩

theorem works_spec : pureF Try.prog 9 [] (.p (.bool true)) := by
  refine pureF_of f9_ok fun H => ?_
  have hf : Fits (.mk 6 ⟨#[]⟩ [.mk 2 ⟨#[97]⟩ []]) := .mk _ _ _ (by decide) (by decide) (by decide) fun a ha => by
    rw [List.mem_singleton] at ha
    subst ha
    exact .mk _ _ _ (by decide) (by decide) (by decide) fun a ha => by cases ha
  have ho : ofT (.mk 6 ⟨#[]⟩ [.mk 2 ⟨#[97]⟩ []]) = .tup [.int .u8 2, .int .i64 0] := by
    have h1 : mayE (.mk 6 ⟨#[]⟩ [.mk 2 ⟨#[97]⟩ []]) = true := by
      simp [mayE, mayL, textOk, arityI, eqS, nameB, letterB, ba_toList]
    rw [ofT, if_pos h1]
    rfl
  have hle : PV.le (.agg [.int .u8 6, .str ⟨#[]⟩, .list 3 [.agg [.int .u8 2, .str ⟨#[97]⟩, .nils]]]) (enc (.mk 6 ⟨#[]⟩ [.mk 2 ⟨#[97]⟩ []])) :=
    .agg (.cons _ _ _ _ (.refl _) (.cons _ _ _ _ (.refl _) (.cons _ _ _ _ (.list (.cons _ _ _ _ (.agg (.cons _ _ _ _ (.refl _) (.cons _ _ _ _ (.refl _) (.cons _ _ _ _ (.nils 3) .nil)))) .nil)) .nil)))
  have hs := (Of_spec _ hf).args (.p _ _ _ _ hle .nil)
  rw [ho] at hs
  (conv => whnf)
  refine CallVC.pureF hs rfl ?_
  (conv => whnf)
  refine splitB_t rfl ?_
  exact ⟨rfl, rfl⟩

theorem TypesOf_spec (e : Ex) (hf : Fits e) : pureF Try.prog 3 [.p (enc e)] (.p (.bool true)) := by
  refine pureF_of f3_ok fun H => ?_
  have hs := Size_spec e 20000 (by omega) (by omega)
  have hl := LentExpr_spec e
  have hk := KeptExpr_spec e
  have hr := refOf_spec e hf
  have ho := (Of_spec e hf).args (.p _ _ _ _ (encT_le e) .nil)
  have few := few_of e 20000 (by omega)
  have hw := works_spec
  obtain ⟨ty, er, hty⟩ := ofT_tup e
  rw [hty] at hr ho
  obtain ⟨o, t, xs⟩ := e
  (conv => whnf)
  refine CallVC.pureF hs rfl ?_
  (conv => whnf)
  refine splitB_dec (fun h => ?_) (fun h => ?_)
  · (conv => whnf)
    refine CallVC.pureF hw rfl ?_
    exact ⟨rfl, rfl⟩
  · have few := few (by omega)
    (conv => whnf)
    refine CallVC.pureF (hl few) rfl ?_
    (conv => whnf)
    refine CallVC.pureF hr rfl ?_
    (conv => whnf)
    refine CallVC.pureF ho rfl ?_
    (conv => whnf)
    refine splitB_t (beq_self_eq_true _) ?_
    (conv => whnf)
    refine splitB_t (beq_self_eq_true _) ?_
    (conv => whnf)
    refine CallVC.pureF (hk few) rfl ?_
    (conv => whnf)
    refine splitB_t rfl ?_
    (conv => whnf)
    refine CallVC.pureF hw rfl ?_
    exact ⟨rfl, rfl⟩

end Go.Proofs.Ytaanmljlbhkonaa.AD
