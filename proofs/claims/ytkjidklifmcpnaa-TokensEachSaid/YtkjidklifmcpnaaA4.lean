/- A plainer machine, four: what the steps of its reading mean. -/
import Derived.Test.YtkjidklifmcpnaaA3
namespace Go.Proofs.Ytkjidklifmcpnaa.AD
set_option linter.unusedVariables false

def getF : FR → Nat → AV
  | [], _ => .p .undef
  | (u, x) :: r, t => bif Nat.beq u t then x else getF r t
def setF : FR → Nat → AV → FR
  | [], t, v => [(t, v)]
  | (u, x) :: r, t, v => bif Nat.beq u t then (u, v) :: r else (u, x) :: setF r t v
def evF (x : Rv) (fr : FR) : AV :=
  match x with
  | .t n => getF fr n
  | .v a => a

theorem getK_eq : ∀ (fr : FR) (t : Nat) (k : AV → Prop), getK fr t k = k (getF fr t)
  | [], t, k => rfl
  | (u, x) :: r, t, k => by
    simp only [getK, getF]
    cases Nat.beq u t
    · exact getK_eq r t k
    · rfl
theorem setK_eq : ∀ (fr : FR) (t : Nat) (v : AV) (k : FR → Prop), setK fr t v k = k (setF fr t v)
  | [], t, v, k => rfl
  | (u, x) :: r, t, v, k => by
    simp only [setK, setF]
    cases Nat.beq u t
    · exact setK_eq r t v fun r' => k ((u, x) :: r')
    · rfl
theorem evK_eq (x : Rv) (fr : FR) (k : AV → Prop) : evK x fr k = k (evF x fr) := by
  cases x
  · exact getK_eq _ _ _
  · rfl
theorem evsK_eq : ∀ (l : List Rv) (fr : FR) (k : List AV → Prop), evsK l fr k = k (l.map fun x => evF x fr)
  | [], fr, k => rfl
  | x :: r, fr, k => by simp only [evsK, evK_eq, evsK_eq r, List.map_cons]
theorem projK_eq : ∀ (ks : List Nat) (fr : FR) (k : FR → Prop), projK ks fr k = k (ks.map fun t => (t, getF fr t))
  | [], fr, k => rfl
  | t :: r, fr, k => by simp only [projK, getK_eq, projK_eq r, List.map_cons]

theorem beq_ne {t u : Nat} (h : ¬ t = u) : Nat.beq t u = false := by
  cases hb : Nat.beq t u with
  | true => exact absurd (Nat.eq_of_beq_eq_true hb) h
  | false => rfl
theorem get_set : ∀ (fr : FR) (t u : Nat) (v : AV), getF (setF fr t v) u = if t = u then v else getF fr u
  | [], t, u, v => by
    simp only [setF, getF]
    by_cases h : t = u
    · subst h; simp
    · rw [if_neg h]
      have : Nat.beq t u = false := beq_ne h
      rw [this]; rfl
  | (x, y) :: r, t, u, v => by
    simp only [setF]
    cases hx : Nat.beq x t with
    | true =>
      have e : x = t := Nat.eq_of_beq_eq_true hx
      subst e
      simp only [cond_true, getF]
      by_cases h : x = u
      · subst h; simp
      · have : Nat.beq x u = false := beq_ne h
        rw [this, if_neg h]; rfl
    | false =>
      simp only [cond_false, getF]
      cases hu : Nat.beq x u with
      | true =>
        have e : x = u := Nat.eq_of_beq_eq_true hu
        have h : ¬ t = u := by
          intro e2; subst e2; subst e; simp at hx
        simp only [cond_true]; rw [if_neg h]
      | false => simp only [cond_false]; exact get_set r t u v

theorem get_proj : ∀ (ks : List Nat) (fr : FR) (t : Nat), getF (ks.map fun t => (t, getF fr t)) t = getF fr t ∨ getF (ks.map fun t => (t, getF fr t)) t = .p .undef
  | [], fr, t => .inr rfl
  | x :: r, fr, t => by
    simp only [List.map_cons, getF]
    cases hx : Nat.beq x t with
    | true => rw [Nat.eq_of_beq_eq_true hx]; exact .inl rfl
    | false => exact get_proj r fr t

theorem dropK_out {α : Type} : ∀ (n : Nat) (l : List α) (k : List α → Prop), dropK n l k → n ≤ l.length ∧ k (l.drop n)
  | 0, l, k, h => ⟨Nat.zero_le _, h⟩
  | n + 1, [], k, h => h.elim
  | n + 1, x :: r, k, h => by
    obtain ⟨h1, h2⟩ := dropK_out n r k h
    exact ⟨Nat.succ_le_succ h1, h2⟩
theorem takeK_out {α : Type} : ∀ (n : Nat) (l : List α) (k : List α → Prop), takeK n l k → n ≤ l.length ∧ k (l.take n)
  | 0, l, k, h => ⟨Nat.zero_le _, by simpa [takeK] using h⟩
  | n + 1, [], k, h => h.elim
  | n + 1, x :: r, k, h => by
    obtain ⟨h1, h2⟩ := takeK_out n r _ h
    exact ⟨Nat.succ_le_succ h1, h2⟩
theorem takeK_in {α : Type} : ∀ (n : Nat) (l : List α) (k : List α → Prop), n ≤ l.length → k (l.take n) → takeK n l k
  | 0, l, k, _, h => by simpa [takeK] using h
  | n + 1, [], k, h, _ => absurd h (by simp)
  | n + 1, x :: r, k, h, h2 => takeK_in n r (fun r' => k (x :: r')) (by simpa using h) h2
theorem atK_out {α : Type} : ∀ (n : Nat) (l : List α) (k : α → Prop), atK n l k → ∃ x, l[n]? = some x ∧ k x
  | 0, [], k, h => h.elim
  | _ + 1, [], k, h => h.elim
  | 0, x :: r, k, h => ⟨x, rfl, h⟩
  | n + 1, x :: r, k, h => by
    obtain ⟨y, h1, h2⟩ := atK_out n r k h
    exact ⟨y, h1, h2⟩
theorem setAtK_out {α : Type} : ∀ (n : Nat) (l : List α) (v : α) (k : List α → Prop), setAtK n l v k → n < l.length ∧ k (l.set n v)
  | 0, [], v, k, h => h.elim
  | _ + 1, [], v, k, h => h.elim
  | 0, x :: r, v, k, h => ⟨by simp, h⟩
  | n + 1, x :: r, v, k, h => by
    obtain ⟨h1, h2⟩ := setAtK_out n r v _ h
    exact ⟨by simpa using h1, h2⟩
theorem spliceK_out {α : Type} : ∀ (n : Nat) (vs l : List α) (k : List α → Prop), spliceK n vs l k → n + vs.length ≤ l.length ∧ k (l.take n ++ vs ++ l.drop (n + vs.length))
  | 0, [], [], k, h => ⟨by simp, by simpa [spliceK] using h⟩
  | 0, v :: vs, [], k, h => h.elim
  | _ + 1, vs, [], k, h => by cases vs <;> exact h.elim
  | 0, [], x :: r, k, h => ⟨by simp, by simpa [spliceK] using h⟩
  | 0, v :: vs, x :: r, k, h => by
    obtain ⟨h1, h2⟩ := spliceK_out 0 vs r _ h
    exact ⟨by simp at h1 ⊢; omega, by simpa [Nat.add_comm] using h2⟩
  | n + 1, vs, x :: r, k, h => by
    obtain ⟨h1, h2⟩ := spliceK_out n vs r _ h
    refine ⟨by simp at h1 ⊢; omega, ?_⟩
    have e : n + 1 + vs.length = (n + vs.length) + 1 := by omega
    rw [e]
    simpa using h2
theorem pushK_eq {α : Type} : ∀ (l : List α) (v : α) (k : Nat → List α → Prop), pushK l v k = k l.length (l ++ [v])
  | [], v, k => rfl
  | x :: r, v, k => by simp only [pushK, pushK_eq r, List.length_cons, List.cons_append]
theorem allPK_out : ∀ (cs : List AV) (k : List PV → Prop) (e : Prop), allPK cs k e → (∃ ps, cs = ps.map AV.p ∧ k ps) ∨ e
  | [], k, e, h => .inl ⟨[], rfl, h⟩
  | a :: r, k, e, h => by
    cases a with
    | p c =>
      rcases allPK_out r _ e h with ⟨ps, h1, h2⟩ | h
      · exact .inl ⟨c :: ps, by rw [h1]; rfl, h2⟩
      · exact .inr h
    | _ => exact .inr h
theorem upPK_eq : ∀ (cs : List PV) (k : List AV → Prop), upPK cs k = k (cs.map AV.p)
  | [], k => rfl
  | c :: r, k => by simp only [upPK, upPK_eq r, List.map_cons]
theorem scalarsK_out : ∀ (cs : List AV) (k : List AV → Prop), scalarsK cs k → (∀ a, a ∈ cs → a.scalar = true) ∧ k cs
  | [], k, h => ⟨fun a ha => (by cases ha), h⟩
  | a :: r, k, h => by
    simp only [scalarsK] at h
    split at h
    · rename_i hs
      obtain ⟨h1, h2⟩ := scalarsK_out r _ h
      refine ⟨fun b hb => ?_, h2⟩
      cases hb with
      | head => exact hs
      | tail _ hb => exact h1 b hb
    · exact h.elim
theorem repK_eq {α : Type} : ∀ (n : Nat) (x : α) (k : List α → Prop), repK n x k = k (List.replicate n x)
  | 0, x, k => rfl
  | n + 1, x, k => by simp only [repK, repK_eq n, List.replicate_succ]
theorem headK_out {α : Type} {l : List α} {k : α → Prop} (h : headK l k) : ∃ x r, l = x :: r ∧ k x := by
  cases l with
  | nil => exact h.elim
  | cons x r => exact ⟨x, r, rfl, h⟩

/-- What a value's cells are. -/
inductive Cells : AV → List AV → Prop
  | aggP (cs : List PV) : Cells (.p (.agg cs)) (cs.map AV.p)
  | agg (cs : List AV) : Cells (.agg cs) cs
  | one (a : AV) : a.scalar = true → Cells a [a]

theorem cellsK_out {v : AV} {k : List AV → Prop} (h : cellsK v k) : ∃ cs, Cells v cs ∧ (∀ a, a ∈ cs → a.scalar = true) ∧ k cs := by
  unfold cellsK at h
  split at h
  · rename_i cs
    rw [upPK_eq] at h
    obtain ⟨h1, h2⟩ := scalarsK_out _ _ h
    exact ⟨_, .aggP cs, h1, h2⟩
  · obtain ⟨h1, h2⟩ := scalarsK_out _ _ h
    exact ⟨_, .agg _, h1, h2⟩
  · obtain ⟨h1, h2⟩ := scalarsK_out _ _ h
    exact ⟨_, .one v (h1 v (by simp)), h1, h2⟩

/-- What the cells of an element are. -/
inductive CellsP : PV → List PV → Prop
  | agg (cs : List PV) : CellsP (.agg cs) cs
  | one (e : PV) : e.scalar = true → CellsP e [e]

theorem cellsPK_out {e : PV} {k : List PV → Prop} (h : cellsPK e k) : ∃ cs, CellsP e cs ∧ k cs := by
  unfold cellsPK at h
  split at h
  · exact ⟨_, .agg _, h⟩
  · exact h.elim
  · exact h.elim
  · rename_i h1 h2 h3
    exact ⟨_, .one e (by cases e <;> first | rfl | exact absurd rfl (h1 _) | exact absurd rfl h2 | exact absurd rfl (h3 _)), h⟩

/-- As one value: of cells that nobody writes, or not. -/
inductive Agg (cs : List AV) : AV → Prop
  | p (ps : List PV) : cs = ps.map AV.p → Agg cs (.p (.agg ps))
  | a : Agg cs (.agg cs)
inductive Tup (cs : List AV) : AV → Prop
  | p (ps : List PV) : cs = ps.map AV.p → Tup cs (.p (.tup ps))
  | a : Tup cs (.tup cs)
theorem mkAggK_out {cs : List AV} {k : AV → Prop} (h : mkAggK cs k) : ∃ a, Agg cs a ∧ k a := by
  rcases allPK_out _ _ _ h with ⟨ps, h1, h2⟩ | h
  · exact ⟨_, .p ps h1, h2⟩
  · exact ⟨_, .a, h⟩
theorem mkTupK_out {cs : List AV} {k : AV → Prop} (h : mkTupK cs k) : ∃ a, Tup cs a ∧ k a := by
  rcases allPK_out _ _ _ h with ⟨ps, h1, h2⟩ | h
  · exact ⟨_, .p ps h1, h2⟩
  · exact ⟨_, .a, h⟩

section va
variable {Γ : Ctx} {w : World}

/-- Cells that stand for one another. -/
def CellsV (Γ : Ctx) (w : World) (xs : Array Value) (cs : List AV) : Prop := xs.size = cs.length ∧ ∀ (j : Nat) (x : Value) (c : AV), xs[j]? = some x → cs[j]? = some c → VA Γ w x c

theorem VA.cells {v : Value} {a : AV} {cs : List AV} (h : VA Γ w v a) (hc : Cells a cs) : CellsV Γ w v.cells cs := by
  cases hc with
  | aggP ps =>
    cases h with
    | p v e h =>
      cases h with
      | agg xs ps h1 h2 h3 =>
        refine ⟨by simpa [Value.cells] using h1, fun j x c hx hc => ?_⟩
        simp only [Value.cells] at hx
        rw [List.getElem?_map] at hc
        obtain ⟨p, hp, rfl⟩ := Option.map_eq_some_iff.1 hc
        exact .p _ _ (h2 j x p hx hp)
  | agg cs =>
    cases h with
    | agg xs cs h1 h2 h3 => exact ⟨h1, h2⟩
  | one a hs =>
    rw [cells_of_oneCell (h.oneCell hs)]
    refine ⟨rfl, fun j x c hx hc => ?_⟩
    cases j with
    | zero =>
      simp at hx hc
      subst hx; subst hc
      exact h
    | succ j => simp at hx

theorem CellsV.one {xs : Array Value} {cs : List AV} (h : CellsV Γ w xs cs) (hs : ∀ a, a ∈ cs → a.scalar = true) (j : Nat) (x : Value) (hx : xs[j]? = some x) : x.oneCell' = true := by
  have hj : j < cs.length := by
    have := (Array.getElem?_eq_some_iff.1 hx).1
    rw [← h.1]; exact this
  exact (h.2 j x cs[j] hx (by simp [hj])).oneCell (hs _ (List.getElem_mem _))

theorem VA.of_agg {xs : Array Value} {cs : List AV} {a : AV} (h : CellsV Γ w xs cs) (h1 : ∀ (j : Nat) (x : Value), xs[j]? = some x → x.oneCell' = true) (ha : Agg cs a) : VA Γ w (.agg xs) a := by
  cases ha with
  | p ps hp =>
    subst hp
    refine .p _ _ (.agg xs ps (by simpa using h.1) (fun j x c hx hc => ?_) h1)
    have := h.2 j x (.p c) hx (by rw [List.getElem?_map, hc]; rfl)
    cases this with
    | p _ _ h => exact h
  | a => exact .agg xs cs h.1 h.2 h1

theorem VA.of_tup {xs : Array Value} {cs : List AV} {a : AV} (h : CellsV Γ w xs cs) (ha : Tup cs a) : VA Γ w (.tuple xs) a := by
  cases ha with
  | p ps hp =>
    subst hp
    refine .p _ _ (.tup xs ps (by simpa using h.1) (fun j x c hx hc => ?_))
    have := h.2 j x (.p c) hx (by rw [List.getElem?_map, hc]; rfl)
    cases this with
    | p _ _ h => exact h
  | a => exact .tup xs cs h.1 h.2

end va

end Go.Proofs.Ytkjidklifmcpnaa.AD
