/- A plainer machine, nineteen: pieces of code, loops, functions. -/
import Derived.Test.YtgdimfogijfmiaaDoorG3
import Derived.Scope
import Derived.IntWalk
namespace Go.Proofs.YtgdimfogijfmiaaDoor.AD
set_option linter.unusedVariables false
set_option linter.unusedSimpArgs false

theorem stepR_scope {P : Program} {b : Frame} {a : Act} {k : List Item} {cs : List Frame} {w : World} {c : Code} : step P (lone (b.atR a (.code (.scope c) :: k)) cs w) = .next (lone (b.atR a (.code c :: .inScope c :: k)) cs w) :=
  step_lone_go (by simp [stepG, stepG.exec, Frame.atR])
theorem stepR_inScope {P : Program} {b : Frame} {a : Act} {k : List Item} {cs : List Frame} {w : World} {c : Code} : step P (lone (b.atR a (.inScope c :: k)) cs w) = .next (lone (b.atR a k) cs w) :=
  step_lone_go (by simp [stepG, stepG.exec, Frame.atR])

/-- At a loop's head, in a round. -/
def inLoop (F : Fence) (n : Nat) (P : Program) (c : Code) (Q : Exit → Act → World → Prop) (a : Act) (w : World) : Prop :=
  ∀ (b : Frame) (k : List Item) (cs : List Frame), b.roundOf = F.round → F.fn b.fn → F.room (cs.length + 1 + n) → ∃ e a' w', Q e a' w' ∧ ArrivesIn (Machine.fenced P F) P (lone (b.atR a (.code c :: .inLoop c :: k)) cs w) b k cs e a' w'

theorem in_round {F : Fence} {n : Nat} {P : Program} {c : Code} {Q : Exit → Act → World → Prop} {a : Act} {w : World} (h : c.wpIn F n P (Exit.then (inLoop F n P c Q) Q) a w) : inLoop F n P c Q a w := by
  intro b k cs hro hb hr
  obtain ⟨e, a₁, w₁, hq, harr⟩ := h b (.inLoop c :: k) cs hro hb hr
  cases e with
  | normal =>
    obtain ⟨e₂, a₂, w₂, hq₂, harr₂⟩ := hq b k cs hro hb hr
    exact ⟨e₂, a₂, w₂, hq₂, .of_steps (StepsIn.trans harr (.one (fenced_calm hb hr rfl) stepR_inLoop)) harr₂⟩
  | exit id => exact ⟨_, a₁, w₁, hq, .pass (x := .inLoop c) rfl (fun _ _ => .inl (by simp)) harr⟩
  | goto l => exact ⟨_, a₁, w₁, hq, .pass (x := .inLoop c) rfl (fun _ _ => .inl (by simp)) harr⟩
  | ret => exact ⟨_, a₁, w₁, hq, .pass (x := .inLoop c) rfl (fun _ _ => .inl (by simp)) harr⟩
  | panic ch => exact ⟨_, a₁, w₁, hq, .pass (x := .inLoop c) rfl (fun _ _ => .inl (by simp)) harr⟩
  | outgrown => exact ⟨_, a₁, w₁, hq, .pass (x := .inLoop c) rfl (fun _ _ => .inl (by simp)) harr⟩

theorem wp_of_in {F : Fence} {n : Nat} {P : Program} {c : Code} {Q : Exit → Act → World → Prop} {a : Act} {w : World} (h : inLoop F n P c Q a w) : (Code.loop c).wpIn F n P Q a w := by
  intro b k cs hro hb hr
  obtain ⟨e, a', w', hq, harr⟩ := h b k cs hro hb hr
  exact ⟨e, a', w', hq, .of_steps (.one (fenced_calm hb hr rfl) stepR_loop) harr⟩

theorem inLoop_mono {F : Fence} {n : Nat} {P : Program} {c : Code} {Q Q' : Exit → Act → World → Prop} {a : Act} {w : World} (h : inLoop F n P c Q a w) (k : ∀ e a w, Q e a w → Q' e a w) : inLoop F n P c Q' a w := by
  intro b k' cs hro hb hr
  obtain ⟨e, a', w', hq, harr⟩ := h b k' cs hro hb hr
  exact ⟨e, a', w', k _ _ _ hq, harr⟩

/-! #### pieces with labels -/
/-- At a label. -/
def ScopeAt (F : Fence) (n : Nat) (P : Program) (c : Code) (l : Nat) (Q : Exit → Act → World → Prop) (a : Act) (w : World) : Prop :=
  ∃ rest, findLabel c l = some rest ∧ ∀ (b : Frame) (k : List Item) (cs : List Frame), b.roundOf = F.round → F.fn b.fn → F.room (cs.length + 1 + n) → ∃ e a' w', Q e a' w' ∧ ArrivesIn (Machine.fenced P F) P (lone (b.atR a (.code rest :: .inScope c :: k)) cs w) b k cs e a' w'

def Exit.lab (F : Fence) (n : Nat) (P : Program) (c : Code) (Q : Exit → Act → World → Prop) : Exit → Act → World → Prop
  | .goto l, a, w => ScopeAt F n P c l Q a w
  | e, a, w => Q e a w

theorem ScopeAt.mono {F : Fence} {n : Nat} {P : Program} {c : Code} {l : Nat} {Q Q' : Exit → Act → World → Prop} {a : Act} {w : World} (h : ScopeAt F n P c l Q a w) (k : ∀ e a w, Q e a w → Q' e a w) : ScopeAt F n P c l Q' a w := by
  obtain ⟨rest, h1, h2⟩ := h
  refine ⟨rest, h1, fun b k' cs hro hb hr => ?_⟩
  obtain ⟨e, a', w', hq, harr⟩ := h2 b k' cs hro hb hr
  exact ⟨e, a', w', k _ _ _ hq, harr⟩

theorem lab_arrives {F : Fence} {n : Nat} {P : Program} {c : Code} {Q : Exit → Act → World → Prop} {m : Machine} {b : Frame} {k : List Item} {cs : List Frame} {e : Exit} {a₁ : Act} {w₁ : World} (hro : b.roundOf = F.round) (hb : F.fn b.fn) (hr : F.room (cs.length + 1 + n))
    (hq : Exit.lab F n P c Q e a₁ w₁) (harr : ArrivesIn (Machine.fenced P F) P m b (.inScope c :: k) cs e a₁ w₁) :
    ∃ e a' w', Q e a' w' ∧ ArrivesIn (Machine.fenced P F) P m b k cs e a' w' := by
  cases e with
  | normal => exact ⟨.normal, a₁, w₁, hq, StepsIn.trans harr (.one (fenced_calm hb hr rfl) stepR_inScope)⟩
  | exit id =>
    have hx : exitTo id (.inScope c :: k) = exitTo id k := by simp [exitTo]
    exact ⟨.exit id, a₁, w₁, hq, fun k' hk => harr.1 k' (by rw [hx]; exact hk), fun hr' hk => harr.2 hr' (by rw [hx]; exact hk)⟩
  | goto l =>
    obtain ⟨rest, h1, h2⟩ := hq
    obtain ⟨e₂, a₂, w₂, hq₂, harr₂⟩ := h2 b k cs hro hb hr
    exact ⟨e₂, a₂, w₂, hq₂, .of_steps (harr.1 _ (by simp [gotoIn, h1])) harr₂⟩
  | ret => exact ⟨_, a₁, w₁, hq, harr⟩
  | panic ch => exact ⟨_, a₁, w₁, hq, harr⟩
  | outgrown => exact ⟨_, a₁, w₁, hq, harr⟩

theorem wp_scope_lab {F : Fence} {n : Nat} {P : Program} {c : Code} {Q : Exit → Act → World → Prop} {a : Act} {w : World} (h : c.wpIn F n P (Exit.lab F n P c Q) a w) : (Code.scope c).wpIn F n P Q a w := by
  intro b k cs hro hb hr
  obtain ⟨e, a₁, w₁, hq, harr⟩ := h b (.inScope c :: k) cs hro hb hr
  obtain ⟨e₂, a₂, w₂, hq₂, harr₂⟩ := lab_arrives hro hb hr hq harr
  exact ⟨e₂, a₂, w₂, hq₂, .of_steps (.one (fenced_calm hb hr rfl) stepR_scope) harr₂⟩

theorem at_label {F : Fence} {n : Nat} {P : Program} {c rest : Code} {l : Nat} {Q : Exit → Act → World → Prop} {a : Act} {w : World} (hf : findLabel c l = some rest) (h : rest.wpIn F n P (Exit.lab F n P c Q) a w) : ScopeAt F n P c l Q a w := by
  refine ⟨rest, hf, fun b k cs hro hb hr => ?_⟩
  obtain ⟨e, a₁, w₁, hq, harr⟩ := h b (.inScope c :: k) cs hro hb hr
  exact lab_arrives hro hb hr hq harr

section
variable {P : Program} {N B : Nat} {T : List Deferred}

/-- What is reached, and how far that is from where one came from. -/
def Post (N B : Nat) (T : List Deferred) (μ : List MI) (w : World) (n0 : Nat) (Q : Exit → FR → List Ob → List Ob → Prop) (e : Exit) (a' : Act) (w' : World) : Prop :=
  ∃ μ' fr' ba' lo', Q e fr' ba' lo' ∧ Rel N B T μ' w' a' fr' ba' lo' ∧ Le μ w μ' w' ∧ ba'.length = n0

theorem Post.from {μ μ' : List MI} {w w' : World} {n0 : Nat} {Q : Exit → FR → List Ob → List Ob → Prop} {e : Exit} {a : Act} {w'' : World} (h : Post N B T μ' w' n0 Q e a w'') (hle : Le μ w μ' w') : Post N B T μ w n0 Q e a w'' := by
  obtain ⟨μ2, fr', ba', lo', h1, h2, h3, h4⟩ := h
  exact ⟨μ2, fr', ba', lo', h1, h2, hle.trans h3, h4⟩

theorem Rel.proj {μ : List MI} {w : World} {a : Act} {fr : FR} {ba lo : List Ob} (h : Rel N B T μ w a fr ba lo) (ks : List Nat) : Rel N B T μ w a (ks.map fun t => (t, getF fr t)) ba lo :=
  ⟨h.inv, h.size, h.base, h.defers, fun t => by
    rcases get_proj ks fr t with e | e
    · rw [e]; exact h.vals t
    · rw [e]; exact .p _ _ (.undef _)⟩

/-! #### back to fewer objects -/

theorem at_to_takeN {M M' : Nat → Prop} {n0 n : Nat} {μ : List MI} {r : Rf} {m : MI} (hl : r.lowL n = true) (h : Ctx.at ⟨M, n0, μ⟩ r = some m) : Ctx.at ⟨M', n0, μ.take (n0 + n)⟩ r = some m := by
  cases r with
  | l k =>
    have hk : k < n := by
      have : k + 1 ≤ n := by simpa [Rf.lowL, Nat.blt] using hl
      exact this
    simp only [Ctx.at] at h ⊢
    rw [List.getElem?_take, if_pos (by omega)]; exact h
  | b id =>
    simp only [Ctx.at] at h ⊢
    split at h
    · rename_i hlt; rw [if_pos hlt, List.getElem?_take, if_pos (by omega)]; exact h
    · cases h

theorem VA.to_takeN {M M' : Nat → Prop} {n0 n : Nat} {μ : List MI} {w : World} {v : Value} {a : AV} (hs : Stays M w M' w) (h : VA ⟨M, n0, μ⟩ w v a) : a.lowL n = true → VA ⟨M', n0, μ.take (n0 + n)⟩ w v a := by
  generalize hΓ : (⟨M, n0, μ⟩ : Ctx) = Γ at h
  induction h with
  | p v e h => subst hΓ; intro _; exact .p v e (h.mono hs)
  | ref r off b h => subst hΓ; intro hl; simp only [AV.lowL] at hl; exact .ref r off b (at_to_takeN hl h)
  | view0 r g sz n h => subst hΓ; intro hl; simp only [AV.lowL] at hl; exact .view0 r g sz n (at_to_takeN hl h)
  | view r g sz n b len cap h h1 h2 => subst hΓ; intro hl; simp only [AV.lowL] at hl; exact .view r g sz n b len cap (at_to_takeN hl h) h1 h2
  | viewOld v r g sz len b g' n h hg h0 => subst hΓ; intro hl; simp only [AV.lowL] at hl; exact .viewOld v r g sz len b g' n (at_to_takeN hl h) hg h0
  | viewGone v r g sz len h h0 => subst hΓ; intro hl; simp only [AV.lowL] at hl; exact .viewGone v r g sz len (at_to_takeN hl h) h0
  | elt r g sz n b idx off h => subst hΓ; intro hl; simp only [AV.lowL] at hl; exact .elt r g sz n b idx off (at_to_takeN hl h)
  | eltOld v r g sz idx off b g' n h hg h0 => subst hΓ; intro hl; simp only [AV.lowL] at hl; exact .eltOld v r g sz idx off b g' n (at_to_takeN hl h) hg h0
  | eltGone v r g sz idx off h h0 => subst hΓ; intro hl; simp only [AV.lowL] at hl; exact .eltGone v r g sz idx off (at_to_takeN hl h) h0
  | tail r g sz n b off len cap h h1 h2 => subst hΓ; intro hl; simp only [AV.lowL] at hl; exact .tail r g sz n b off len cap (at_to_takeN hl h) h1 h2
  | tail0 r g sz n off b A h => subst hΓ; intro hl; simp only [AV.lowL] at hl; exact .tail0 r g sz n off b A (at_to_takeN hl h)
  | tailOld v r g sz off len b g' n h hg h0 => subst hΓ; intro hl; simp only [AV.lowL] at hl; exact .tailOld v r g sz off len b g' n (at_to_takeN hl h) hg h0
  | tailGone v r g sz off len h h0 => subst hΓ; intro hl; simp only [AV.lowL] at hl; exact .tailGone v r g sz off len (at_to_takeN hl h) h0
  | mapr r b h => subst hΓ; intro hl; simp only [AV.lowL] at hl; exact .mapr r b (at_to_takeN hl h)
  | maprGone v r h h0 => subst hΓ; intro hl; simp only [AV.lowL] at hl; exact .maprGone v r (at_to_takeN hl h) h0
  | clos f xs ys as bs h1 h2 _ _ ih1 ih2 =>
    intro hl; simp only [AV.lowL, Bool.and_eq_true] at hl
    exact .clos f xs ys as bs h1 h2 (fun j x c hx hc => ih1 j x c hx hc (lowsL_mem hl.1 c (List.mem_of_getElem? hc))) (fun j x c hx hc => ih2 j x c hx hc (lowsL_mem hl.2 c (List.mem_of_getElem? hc)))
  | agg xs cs h1 _ h3 ih => intro hl; simp only [AV.lowL] at hl; exact .agg xs cs h1 (fun j x c hx hc => ih j x c hx hc (lowsL_mem hl c (List.mem_of_getElem? hc))) h3
  | tup xs cs h1 _ ih => intro hl; simp only [AV.lowL] at hl; exact .tup xs cs h1 (fun j x c hx hc => ih j x c hx hc (lowsL_mem hl c (List.mem_of_getElem? hc)))

theorem obsLowL_get {n : Nat} : ∀ {l : List Ob}, obsLowL n l = true → ∀ (k : Nat) (o : Ob), l[k]? = some o → ∀ cs, (o = .cells cs ∨ (∃ a b c d, o = .loop a b c cs d) ∨ (∃ a, o = .mapA a cs) ∨ ∃ a, o = .bufA a cs) → AV.lowsL n cs = true
  | [], _, k, o, h, _, _ => by simp at h
  | x :: r, h, k, o, ho, cs, e => by
    cases k with
    | zero =>
      simp at ho
      subst ho
      rcases e with rfl | ⟨_, _, _, _, rfl⟩ | ⟨_, rfl⟩ | ⟨_, rfl⟩
      · simp only [obsLowL, Bool.and_eq_true] at h
        exact h.1
      · simp only [obsLowL, Bool.and_eq_true] at h
        exact h.1
      · simp only [obsLowL, Bool.and_eq_true] at h
        exact h.1
      · simp only [obsLowL, Bool.and_eq_true] at h
        exact h.1
    | succ k =>
      have : obsLowL n r = true := by
        cases x <;> simp only [obsLowL, Bool.and_eq_true] at h <;> first | exact h.2 | exact h
      exact obsLowL_get this k o (by simpa using ho) cs e

theorem blocks_take {μ : List MI} {n b : Nat} (h : blocks (μ.take n) b) : blocks μ b := by
  obtain ⟨i, m, h1, h2⟩ := h
  exact ⟨i, m, take_get h1, h2⟩

theorem Inv.trunc {μ : List MI} {w : World} {ba lo : List Ob} (h : Inv μ w ba lo) {n : Nat} (hn : n ≤ lo.length) (hl : obsLowL n (lo.take n) = true) : Inv (μ.take (ba.length + n)) w ba (lo.take n) := by
  have hs : Stays (blocks μ) w (blocks (μ.take (ba.length + n))) w := ⟨Nat.le_refl _, fun b _ hb => ⟨fun hc => hb (blocks_take hc), rfl⟩⟩
  refine ⟨by rw [List.length_take, List.length_take, h.len]; omega, fun i j m m' b h1 h2 => h.apart i j m m' b (take_get h1) (take_get h2), fun i o ho => ?_, fun k o ho => ?_⟩
  · obtain ⟨m, h1, h2⟩ := h.bases i o ho
    have hi := get_lt ho
    refine ⟨m, by rw [List.getElem?_take, if_pos (by omega)]; exact h1, ?_⟩
    rw [List.take_take, Nat.min_eq_left (by omega)]
    exact h2.mono hs (.refl _) fun b _ => rfl
  · have hk := get_lt ho
    rw [List.length_take] at hk
    have ho' := take_get ho
    obtain ⟨m, h1, h2⟩ := h.locs k o ho'
    refine ⟨m, by rw [List.getElem?_take, if_pos (by omega)]; exact h1, ?_⟩
    cases h2 with
    | cells b xs t cs a1 a2 a3 =>
      have hcs := obsLowL_get hl k _ ho cs (.inl rfl)
      exact .cells b xs t cs a1 a2 fun j x c hx hc => ⟨(a3 j x c hx hc).1.to_takeN hs (lowsL_mem hcs c (List.mem_of_getElem? hc)), (a3 j x c hx hc).2⟩
    | buf0 g sz n => exact .buf0 g sz n
    | buf b g n sz xs t es c a1 a2 a3 a4 => exact .buf b g n sz xs t es c a1 a2 a3 fun j e he => ⟨(a4 j e he).1, (a4 j e he).2.1, (a4 j e he).2.2.mono hs⟩
    | map b clock xs es a1 a2 a3 a4 a5 => exact .map b clock xs es a1 a2 (fun j x e hx he => ⟨(a3 j x e hx he).1.mono hs, (a3 j x e hx he).2.mono hs⟩) a4 a5
    | mapA b clock xs ks vs a1 a2 a3 a4 a5 =>
      have hcs := obsLowL_get hl k _ ho vs (.inr (.inr (.inl ⟨_, rfl⟩)))
      exact .mapA b clock xs ks vs a1 a2 a3 (fun j x e hx he => (a4 j x e hx he).mono hs) fun j x c hx hc => (a5 j x c hx hc).to_takeN hs (lowsL_mem hcs c (List.mem_of_getElem? hc))
    | bufA b g n' xs t es a1 a2 a3 a4 =>
      have hcs := obsLowL_get hl k _ ho es (.inr (.inr (.inr ⟨_, rfl⟩)))
      exact .bufA b g n' xs t es a1 a2 a3 fun j x c hx hc => ⟨(a4 j x c hx hc).1.to_takeN hs (lowsL_mem hcs c (List.mem_of_getElem? hc)), (a4 j x c hx hc).2⟩
    | loop l r ks cs st p a1 a2 a0 a3 =>
      have hcs := obsLowL_get hl k _ ho cs (.inr (.inl ⟨_, _, _, _, rfl⟩))
      exact .loop l r ks cs st p a1 a2 a0 fun j t c hj hc => (a3 j t c hj hc).to_takeN hs (lowsL_mem hcs c (List.mem_of_getElem? hc))
    | gone => exact .gone

theorem Le.trunc {μ μ' : List MI} {w w' : World} (h : Le μ w μ' w') : Le μ w (μ'.take μ.length) w' :=
  ⟨h.os, h.tape, h.output, fun i m hm => by
    obtain ⟨m', h1, h2⟩ := h.above i m hm
    exact ⟨m', by rw [List.getElem?_take, if_pos (get_lt hm)]; exact h1, h2⟩,
   h.stays.1, fun b hb hm => ⟨fun hc => (h.stays.2 b hb hm).1 (blocks_take hc), (h.stays.2 b hb hm).2⟩⟩

theorem frLowL_get {n : Nat} : ∀ {fr : FR}, frLowL n fr = true → ∀ t, (getF fr t).lowL n = true
  | [], _, t => rfl
  | (u, x) :: r, h, t => by
    simp only [frLowL, Bool.and_eq_true] at h
    simp only [getF]
    cases Nat.beq u t
    · exact frLowL_get h.2 t
    · exact h.1

/-- The code that is read so. -/
inductive Reads (P : Program) (N : Nat) (own : List Nat) : Code → IC → Prop
  | skip : Reads P N own .skip .skip
  | ops (id : Nat) (ops : Array Oper) (is : List IO_) : compOps P N own ops.toList 0 ops.toList = some is → Reads P N own (.region id ops false) (.ops is)
  | pops (id : Nat) (ops : Array Oper) (is : List IO_) : compOps P N own ops.toList 0 ops.toList = some is → Reads P N own (.region id ops false) (.pops is)
  | qops (id : Nat) (ops : Array Oper) (is : List IO_) : compOps P N own ops.toList 0 ops.toList = some is → drawOkP ops.toList is = true → Reads P N own (.region id ops true) (.qops is (befores ops.toList))
  | dops (id : Nat) (ops : Array Oper) (is : List IO_) : compOps P N own ops.toList 0 ops.toList = some is → drawOk false ops.toList is = true → Reads P N own (.region id ops true) (.dops is)
  | eops (id : Nat) (ops : Array Oper) (is : List IO_) : compOps P N own ops.toList 0 ops.toList = some is → drawOk true ops.toList is = true → Reads P N own (.region id ops true) (.eops is (befores ops.toList))
  | seq (a b : Code) (x y : IC) : compC P N own a = some x → compC P N own b = some y → Reads P N own (.seq a b) (.seq x y)
  | cond (o : Operand) (r : Rv) (a b : Code) (x y : IC) : rv o = some r → compC P N own a = some x → compC P N own b = some y → Reads P N own (.cond o a b) (.cond r x y)
  | block (id : Nat) (a : Code) (x : IC) : compC P N own a = some x → Reads P N own (.block id a) (.block id x)
  | loop (a : Code) (x : IC) : compC P N own a = some x → Reads P N own (.loop a) (.loop [] x)
  | exit (id : Nat) : Reads P N own (.exit id) (.exit id)
  | ret : Reads P N own .ret .ret
  | scope (a : Code) (x y : IC) : compC P N own a = some x → y = chainI x (labelsI x) → Reads P N own (.scope a) (.scope y)
  | label (l : Nat) : Reads P N own (.label l) (.label l)
  | goto (l : Nat) : Reads P N own (.goto l) (.goto l [])
  | rangeF (g : Operand) (r : Rv) (ps : Array Nat) (a b : Code) (x y : IC) (l : List Nat) : rv g = some r → compC P N own a = some x → compC P N own b = some y → (∀ t, t ∈ ps.toList → t < N) → l = ps.toList → Reads P N own (.rangeFunc g ps a b) (.rangeF [] r l x y)
  | bad (c : Code) : Reads P N own c .bad

theorem reads_of {own : List Nat} {c : Code} {ic : IC} (h : compC P N own c = some ic) : Reads P N own c ic := by
  cases c with
  | skip => cases h; exact .skip
  | region id ops draw =>
    simp only [compC] at h
    split at h
    · rename_i is his
      split at h
      · cases draw with
        | false => simp only [Bool.false_eq_true, if_false] at h; cases h; exact .pops id ops is his
        | true =>
          simp only [if_true] at h
          split at h
          · rename_i hd; cases h; exact .qops id ops is his hd
          · cases h; exact .bad _
      cases draw with
      | false => simp only [Bool.false_eq_true, if_false] at h; cases h; exact .ops id ops is his
      | true =>
        simp only [if_true] at h
        split at h
        · rename_i hd; cases h; exact .dops id ops is his hd
        · split at h
          · rename_i hd; cases h; exact .eops id ops is his hd
          · cases h
    · cases h
  | seq a b =>
    simp only [compC] at h
    split at h
    · rename_i x y h1 h2; cases h; exact .seq a b x y h1 h2
    · cases h
  | cond o a b =>
    simp only [compC] at h
    split at h
    · rename_i r x y h1 h2 h3; cases h; exact .cond o r a b x y h1 h2 h3
    · cases h
  | block id a => obtain ⟨x, h1, rfl⟩ := map_some h; exact .block id a x h1
  | loop a => obtain ⟨x, h1, rfl⟩ := map_some h; exact .loop a x h1
  | exit id => cases h; exact .exit id
  | ret => cases h; exact .ret
  | scope a => obtain ⟨x, h1, rfl⟩ := map_some h; exact .scope a x _ h1 rfl
  | label l => cases h; exact .label l
  | goto l => cases h; exact .goto l
  | rangeFunc g ps a b =>
    simp only [compC] at h
    split at h
    · rename_i r x y h1 h2 h3
      split at h
      · rename_i h4
        cases h
        refine .rangeF g r ps a b x y _ h1 h2 h3 (fun t ht => ?_) rfl
        rw [List.all_eq_true] at h4
        have : Nat.ble (t + 1) N = true := h4 t ht
        exact Nat.le_of_ble_eq_true this
      · cases h
    · cases h
  | _ => cases h; exact .bad _

/-- What stands behind a label is read alike. -/
theorem find_comp {own : List Nat} : ∀ (c : Code) (x : IC), compC P N own c = some x → ∀ l, (findLabel c l = none ∧ findI x l = none) ∨ ∃ r y, findLabel c l = some r ∧ findI x l = some y ∧ compC P N own r = some y := by
  intro c
  induction c with
  | seq a b iha ihb =>
    intro x hx l
    simp only [compC] at hx
    split at hx
    · rename_i x y h1 h2
      cases hx
      rcases iha x h1 l with ⟨g1, g2⟩ | ⟨r, z, g1, g2, g3⟩
      · rcases ihb y h2 l with ⟨k1, k2⟩ | ⟨r, z, k1, k2, k3⟩
        · exact .inl ⟨by simp [findLabel, g1, k1], by simp [findI, g2, k2]⟩
        · exact .inr ⟨r, z, by simp [findLabel, g1, k1], by simp [findI, g2, k2], k3⟩
      · exact .inr ⟨.seq r b, .seq z y, by simp [findLabel, g1], by simp [findI, g2], by simp [compC, g3, h2]⟩
    · cases hx
  | label l' =>
    intro x hx l
    cases hx
    by_cases h : l' = l
    · subst h; exact .inr ⟨.skip, .skip, by simp [findLabel], by simp [findI], rfl⟩
    · exact .inl ⟨by simp [findLabel, h], by simp [findI, h]⟩
  | _ => intro x hx l; cases reads_of hx <;> exact .inl ⟨rfl, rfl⟩

theorem chain_cases (x : IC) : ∀ ls, chainI x ls = x ∨ ∃ l y ls', findI x l = some y ∧ chainI x ls = .lab l y (chainI x ls')
  | [] => .inl rfl
  | l :: ls => by
    cases h : findI x l with
    | none => simp only [chainI, h]; exact chain_cases x ls
    | some y => exact .inr ⟨l, y, ls, h, by simp only [chainI, h]⟩

theorem Marks.take {μ : List MI} {w : World} {ds : List Deferred} (h : Marks B T μ w ds) (n : Nat) : Marks B T (μ.take n) w ds := by
  obtain ⟨Ds, h1, h2, h3⟩ := h
  exact ⟨Ds, h1, h2, fun D hD => ⟨(h3 D hD).1, fun hc => (h3 D hD).2.1 (blocks_take hc), (h3 D hD).2.2⟩⟩

/-! #### a block that nobody knows is shut -/
theorem VP.still {M : Nat → Prop} {w w' : World} (hs : w.heap.size ≤ w'.heap.size) (hc : ∀ a x, w.cell? a = some x → w'.cell? a = some x) {v : Value} {e : PV} (h : VP M w v e) : VP M w' v e := by
  induction h with
  | undef v => exact .undef v
  | bool b => exact .bool b
  | int k n => exact .int k n
  | str s => exact .str s
  | agg xs cs h1 _ h3 ih => exact .agg xs cs h1 ih h3
  | tup xs cs h1 _ ih => exact .tup xs cs h1 ih
  | nils => exact .nils
  | list0 sz A cap h => exact .list0 sz A cap h
  | list b off cap sz es c h1 h2 h3 h4 h5 _ ih => exact .list b off cap sz es c h1 (Nat.lt_of_lt_of_le h2 hs) h3 h4 (fun j e he i x hx => ⟨(h5 j e he i x hx).1, hc _ _ (h5 j e he i x hx).2⟩) ih
  | lent b off cap sz es sp c h1 h2 h3 h4 h5 _ ih => exact .lent b off cap sz es sp c h1 (Nat.lt_of_lt_of_le h2 hs) h3 h4 (fun j e he i x hx => ⟨(h5 j e he i x hx).1, hc _ _ (h5 j e he i x hx).2⟩) ih
  | nilp => exact .nilp
  | ptr b off cs c h1 h2 h3 _ ih => exact .ptr b off cs c h1 (Nat.lt_of_lt_of_le h2 hs) (fun j e he => ⟨(h3 j e he).1, hc _ _ (h3 j e he).2⟩) ih
  | fn f => exact .fn f
  | nilf => exact .nilf
  | nilm => exact .nilm
  | nili => exact .nili
  | zer A cap => exact .zer A cap
  | emp A => exact .emp A
  | iface t x v _ ih => exact .iface t x v ih
theorem VA.still {Γ : Ctx} {w w' : World} (hs : w.heap.size ≤ w'.heap.size) (hc : ∀ a x, w.cell? a = some x → w'.cell? a = some x) {v : Value} {a : AV} (h : VA Γ w v a) : VA Γ w' v a := by
  induction h with
  | p v e h => exact .p v e (h.still hs hc)
  | ref r off b h => exact .ref r off b h
  | view0 r g sz n h => exact .view0 r g sz n h
  | view r g sz n b len cap h h1 h2 => exact .view r g sz n b len cap h h1 h2
  | viewOld v r g sz len b g' n h hg h0 => exact .viewOld v r g sz len b g' n h hg h0
  | viewGone v r g sz len h h0 => exact .viewGone v r g sz len h h0
  | elt r g sz n b idx off h => exact .elt r g sz n b idx off h
  | eltOld v r g sz idx off b g' n h hg h0 => exact .eltOld v r g sz idx off b g' n h hg h0
  | eltGone v r g sz idx off h h0 => exact .eltGone v r g sz idx off h h0
  | tail r g sz n b off len cap h h1 h2 => exact .tail r g sz n b off len cap h h1 h2
  | tail0 r g sz n off b A h => exact .tail0 r g sz n off b A h
  | tailOld v r g sz off len b g' n h hg h0 => exact .tailOld v r g sz off len b g' n h hg h0
  | tailGone v r g sz off len h h0 => exact .tailGone v r g sz off len h h0
  | mapr r b h => exact .mapr r b h
  | maprGone v r h h0 => exact .maprGone v r h h0
  | clos f xs ys as bs h1 h2 _ _ ih1 ih2 => exact .clos f xs ys as bs h1 h2 ih1 ih2
  | agg xs cs h1 _ h3 ih => exact .agg xs cs h1 ih h3
  | tup xs cs h1 _ ih => exact .tup xs cs h1 ih
theorem ObOk.still {Γ : Ctx} {w w' : World} (hs : w.heap.size ≤ w'.heap.size) (hc : ∀ a x, w.cell? a = some x → w'.cell? a = some x) {m : MI} {o : Ob} (h : ObOk Γ w m o) (hb : ∀ b, m.block? = some b → w'.heap[b]? = w.heap[b]?) : ObOk Γ w' m o := by
  cases h with
  | cells b xs t cs h1 h2 h3 => exact .cells b xs t cs ((hb b rfl).trans h1) h2 fun j x c a b => ⟨(h3 j x c a b).1.still hs hc, (h3 j x c a b).2⟩
  | buf0 g sz n => exact .buf0 g sz n
  | buf b g n sz xs t es c h1 h2 h3 h4 => exact .buf b g n sz xs t es c ((hb b rfl).trans h1) h2 h3 fun j e he => ⟨(h4 j e he).1, (h4 j e he).2.1, (h4 j e he).2.2.still hs hc⟩
  | map b clock xs es h1 h2 h3 h4 h5 => exact .map b clock xs es ((hb b rfl).trans h1) h2 (fun j x e a c => ⟨(h3 j x e a c).1.still hs hc, (h3 j x e a c).2.still hs hc⟩) h4 h5
  | mapA b clock xs ks vs h1 h2 h3 h4 h5 => exact .mapA b clock xs ks vs ((hb b rfl).trans h1) h2 h3 (fun j x e a c => (h4 j x e a c).still hs hc) fun j x e a c => (h5 j x e a c).still hs hc
  | bufA b g n xs t es h1 h2 h3 h4 => exact .bufA b g n xs t es ((hb b rfl).trans h1) h2 h3 fun j x c a b => ⟨(h4 j x c a b).1.still hs hc, (h4 j x c a b).2⟩
  | loop l r ks cs st p h1 h2 h0 h3 => exact .loop l r ks cs st p ((hb l rfl).trans h1) h2 h0 fun j t c a b => (h3 j t c a b).still hs hc
  | gone => exact .gone
theorem put_cell {w : World} {D : Nat} {x : Option (List Deferred)} (h : w.heap[D]? = some (.deferred x)) (o : Obj) (a : Addr) (v : Value) (hc : w.cell? a = some v) : (w.putObj D o).cell? a = some v := by
  have : a.block ≠ D := by
    intro e
    subst e
    simp [World.cell?, h] at hc
  unfold World.cell? at hc ⊢
  rw [World.putObj_heap_other this]
  exact hc
theorem Inv.shut {μ : List MI} {w : World} {ba lo : List Ob} {D : Nat} {x : Option (List Deferred)} (h : Inv μ w ba lo) (hD : ¬ blocks μ D) (hh : w.heap[D]? = some (.deferred x)) (o : Obj) : Inv μ (w.putObj D o) ba lo := by
  have hs : w.heap.size ≤ (w.putObj D o).heap.size := by simp
  have hb : ∀ {i : Nat} {m : MI}, μ[i]? = some m → ∀ b, m.block? = some b → (w.putObj D o).heap[b]? = w.heap[b]? := fun {i m} hm b hb => World.putObj_heap_other fun e => hD (e ▸ ⟨i, m, hm, hb⟩)
  refine ⟨h.len, h.apart, fun i o' ho => ?_, fun k o' ho => ?_⟩
  · obtain ⟨m, h1, h2⟩ := h.bases i o' ho
    exact ⟨m, h1, h2.still hs (put_cell hh o) (hb h1)⟩
  · obtain ⟨m, h1, h2⟩ := h.locs k o' ho
    exact ⟨m, h1, h2.still hs (put_cell hh o) (hb h1)⟩

def shutAll : List Nat → World → World
  | [], w => w
  | D :: r, w => shutAll r (w.putObj D (.deferred none))

/-- At the end of a function: the marks are taken in. -/
theorem Rel.shut : ∀ (Ds : List Nat) {μ0 μ : List MI} {w0 w : World} {a : Act} {fr : FR} {ba lo : List Ob}, Ds.Nodup → (∀ D, D ∈ Ds → w0.heap.size ≤ D ∧ ¬ blocks μ D ∧ w.heap[D]? = some (.deferred (some []))) → Rel N B [] μ w { a with defers := [] } fr ba lo → Le μ0 w0 μ w →
    Rel N B [] μ (shutAll Ds w) { a with defers := [] } fr ba lo ∧ Le μ0 w0 μ (shutAll Ds w)
  | [], _, _, _, _, _, _, _, _, _, _, hr, hle => ⟨hr, hle⟩
  | D :: r, μ0, μ, w0, w, a, fr, ba, lo, hn, hD, hr, hle => by
    obtain ⟨g1, g2, g3⟩ := hD D (by simp)
    obtain ⟨n1, n2⟩ := List.nodup_cons.1 hn
    have hs : w.heap.size ≤ (w.putObj D (.deferred none)).heap.size := by simp
    refine Rel.shut r n2 (fun D' hD' => ?_) ⟨hr.inv.shut g2 g3 _, hr.size, Nat.le_trans hr.base hs, .nil, fun t => (hr.vals t).still hs (put_cell g3 _)⟩ ?_
    · obtain ⟨k1, k2, k3⟩ := hD D' (by simp [hD'])
      exact ⟨k1, k2, (World.putObj_heap_other fun (e : D' = D) => n1 (e ▸ hD')).trans k3⟩
    · exact ⟨hle.os, hle.tape, hle.output, hle.above, Nat.le_trans hle.stays.1 hs, fun b hb hm => ⟨(hle.stays.2 b hb hm).1, (World.putObj_heap_other (by omega)).trans (hle.stays.2 b hb hm).2⟩⟩

theorem leaves_marks {F : Fence} {n : Nat} {fn : Func} {tmps : Array Value} {R : Ending → World → Prop} : ∀ (Ds : List Nat) {w : World}, Ds.Nodup → (∀ D, D ∈ Ds → w.heap[D]? = some (.deferred (some []))) → (∃ v, (results fn tmps).run P (shutAll Ds w) = .ok v (shutAll Ds w) ∧ R (.returned v) (shutAll Ds w)) →
    LeavesInM F n P fn tmps R (Ds.map fun D => { target := .collected D, args := #[] }) .returning w
  | [], w, _, _, h => h
  | D :: r, w, hn, hD, h => by
    obtain ⟨n1, n2⟩ := List.nodup_cons.1 hn
    refine ⟨by simp, .inl ⟨D, _, rfl, run_takeDeferred (hD D (by simp)), leaves_marks r n2 (fun D' hD' => ?_) h⟩⟩
    exact (World.putObj_heap_other fun (e : D' = D) => n1 (e ▸ hD')).trans (hD D' (by simp [hD']))

/-- A piece is read right; and so is a piece with its labels ahead of it. -/
def Snd (P : Program) (N B : Nat) (T : List Deferred) (ro : Option Nat) (nd : Nat) (own : List Nat) (ic : IC) : Prop := ∀ (c : Code), compC P N own c = some ic.bare → ∀ {fr : FR} {ba lo : List Ob} {Q : Exit → FR → List Ob → List Ob → Prop}, W P ic fr ba lo Q →
    ∀ {μ : List MI} {w : World} {a : Act}, Rel N B T μ w a fr ba lo → c.wpIn (FW ro) nd P (Post N B T μ w ba.length Q) a w
def Chn (P : Program) (N B : Nat) (T : List Deferred) (ro : Option Nat) (nd : Nat) (own : List Nat) (ic : IC) : Prop := ∀ (c : Code) (x : IC) (ls : List Nat), compC P N own c = some x → ic.bare = chainI x ls → ∀ {fr : FR} {ba lo : List Ob} {Q : Exit → FR → List Ob → List Ob → Prop}, W P ic fr ba lo Q →
    (∀ l r, findLabel c l = some r → ∀ (fr : FR) (ba2 lo : List Ob), (∀ μ w a, Rel N B T μ w a fr ba2 lo → r.wpIn (FW ro) nd P (Post N B T μ w ba2.length Q) a w) → Q (.goto l) fr ba2 lo) →
    ∀ {μ : List MI} {w : World} {a : Act}, Rel N B T μ w a fr ba lo → c.wpIn (FW ro) nd P (Post N B T μ w ba.length Q) a w

theorem both {ro : Option Nat} {nd : Nat} {own : List Nat} {ic : IC} (hn : ∀ l x y, ic = .lab l x y → Snd P N B T ro nd own x ∧ Chn P N B T ro nd own y) (h : Snd P N B T ro nd own ic) : Snd P N B T ro nd own ic ∧ Chn P N B T ro nd own ic := by
  refine ⟨h, fun c x ls hc hb fr ba lo Q hw hcl μ w a hr => ?_⟩
  rcases chain_cases x ls with e | ⟨l, y, ls', hy, e⟩
  · exact h c (by rw [hb, e]; exact hc) hw hr
  · rw [e] at hb
    cases ic with
    | lab l1 x1 y1 =>
      simp only [IC.bare, IC.lab.injEq] at hb
      obtain ⟨rfl, hx1, hy1⟩ := hb
      obtain ⟨g1, g2⟩ := hn _ _ _ rfl
      refine g2 c x ls' hc hy1 (hw fun fr ba2 lo hx => ?_) hcl hr
      rcases find_comp c x hc l1 with ⟨_, k2⟩ | ⟨r, z, k1, k2, k3⟩
      · rw [hy] at k2; cases k2
      · rw [hy] at k2
        cases k2
        exact hcl l1 r k1 fr ba2 lo fun μ w a hr => g1 r (by rw [hx1]; exact k3) hx hr
    | _ => cases hb

theorem noL {ro : Option Nat} {a b : Bool} (h : ro = none ∨ (a && b) = true) : ro = none ∨ a = true := h.imp id fun h => by simp at h; exact h.1
theorem noE {ro : Option Nat} {a b : Bool} (h : ro = none ∨ (a && b) = true) : ro = none ∨ b = true := h.imp id fun h => by simp at h; exact h.2


/-! #### a range over a function -/
theorem colK_eq : ∀ (fr : FR) (k : List AV → Prop), colK fr k = k (fr.map (·.2))
  | [], k => rfl
  | (t, v) :: r, k => by simp only [colK]; rw [colK_eq r]; rfl
theorem zipK_out : ∀ (ks : List Nat) (cs : List AV) (k : FR → Prop), zipK ks cs k → k (ks.zip cs)
  | [], [], k, h => h
  | t :: ts, v :: vs, k, h => zipK_out ts vs _ h
  | [], _ :: _, k, h => h.elim
  | _ :: _, [], k, h => h.elim
def setPs : List Nat → List AV → FR → FR
  | t :: ts, v :: vs, fr => setPs ts vs (setF fr t v)
  | _, _, fr => fr
theorem setPsK_out : ∀ (ps : List Nat) (pl : List AV) (fr : FR) (k : FR → Prop), setPsK ps pl fr k → ps.length = pl.length ∧ k (setPs ps pl fr)
  | [], [], fr, k, h => ⟨rfl, h⟩
  | t :: ts, v :: vs, fr, k, h => by
    simp only [setPsK, setK_eq] at h
    obtain ⟨h1, h2⟩ := setPsK_out ts vs _ k h
    exact ⟨by simp [h1], h2⟩
  | [], _ :: _, fr, k, h => h.elim
  | _ :: _, [], fr, k, h => h.elim

theorem zip_vals {Γ : Ctx} {w : World} {f : Nat → Value} : ∀ (ks : List Nat) (cs : List AV), (∀ (j t : Nat) (c : AV), ks[j]? = some t → cs[j]? = some c → VA Γ w (f t) c) → ∀ t, VA Γ w (f t) (getF (ks.zip cs) t)
  | [], cs, _, t => .p _ _ (.undef _)
  | _ :: _, [], _, t => .p _ _ (.undef _)
  | u :: ks, c :: cs, h, t => by
    simp only [List.zip_cons_cons, getF]
    cases hb : Nat.beq u t with
    | true => rw [← Nat.eq_of_beq_eq_true hb]; exact h 0 u c rfl rfl
    | false => exact zip_vals ks cs (fun j t' c' h1 h2 => h (j + 1) t' c' h1 h2) t

/-- The loop's variables are set. -/
theorem setPs_vals {Γ : Ctx} {w : World} : ∀ (ps : List Nat) (pl : List AV) (xs : List Value) (tmps : Array Value) (fr : FR), (∀ t, t ∈ ps → t < N) → tmps.size = N → ps.length = pl.length → xs.length = pl.length → (∀ (j : Nat) (x : Value) (e : AV), xs[j]? = some x → pl[j]? = some e → VA Γ w x e) →
    (∀ t, VA Γ w (tmps.getD t undef) (getF fr t)) → ((ps.zip xs).foldl (fun tmps (p : Nat × Value) => tmps.setIfInBounds p.1 p.2) tmps).size = N ∧ ∀ t, VA Γ w (((ps.zip xs).foldl (fun tmps (p : Nat × Value) => tmps.setIfInBounds p.1 p.2) tmps).getD t undef) (getF (setPs ps pl fr) t)
  | [], [], xs, tmps, fr, _, hs, _, _, _, hv => by cases xs <;> exact ⟨hs, hv⟩
  | p :: ps, e :: pl, x :: xs, tmps, fr, hp, hs, h1, h2, hx, hv => by
    simp only [List.zip_cons_cons, List.foldl_cons, setPs]
    refine setPs_vals ps pl xs _ _ (fun t ht => hp t (by simp [ht])) (by simp [hs]) (by simpa using h1) (by simpa using h2) (fun j y e' g1 g2 => hx (j + 1) y e' g1 g2) fun t => ?_
    rw [get_set]
    by_cases he : p = t
    · subst he
      rw [if_pos rfl]
      have hlt := hp p (by simp)
      have : (tmps.setIfInBounds p x).getD p undef = x := by simp [hs, hlt]
      rw [this]
      exact hx 0 x e rfl rfl
    · rw [if_neg he]
      have : (tmps.setIfInBounds p x).getD t undef = tmps.getD t undef := by simp [Array.getElem?_setIfInBounds_ne he]
      rw [this]
      exact hv t
  | [], _ :: _, _, _, _, _, _, h, _, _, _ => by cases h
  | _ :: _, [], _, _, _, _, _, h, _, _, _ => by cases h
  | _ :: _, _ :: _, [], _, _, _, _, _, h, _, _ => by cases h

theorem loop_at {μ : List MI} {w : World} {ba lo : List Ob} {k l : Nat} {r : Loop} {ks : List Nat} {cs : List AV} {st : LSt} (hi : Inv μ w ba lo) (hk : lo[k]? = some (.loop l r ks cs st)) :
    μ[ba.length + k]? = some (.cells l) ∧ ∃ p, w.heap[l]? = some (.loop { r with state := st.state, pending := p }) ∧ st.pend p ∧ ks.length = cs.length ∧ ∀ (j t : Nat) (c : AV), ks[j]? = some t → cs[j]? = some c → VA ⟨blocks μ, ba.length, μ⟩ w (r.tmps.getD t undef) c := by
  obtain ⟨m, h1, h2⟩ := hi.locs k _ hk
  cases h2 with
  | loop _ _ _ _ _ p g1 g2 g3 g4 => exact ⟨h1, p, g1, g2, g3, g4⟩

/-- The loop's record turns. -/
theorem loop_step {μ : List MI} {w : World} {ba lo : List Ob} {k l : Nat} {r : Loop} {ks : List Nat} {cs : List AV} {st : LSt} (st' : LSt) (p' : Option Code) (hi : Inv μ w ba lo) (hk : lo[k]? = some (.loop l r ks cs st)) (hp : st'.pend p') :
    Inv μ (w.putObj l (.loop { r with state := st'.state, pending := p' })) ba (lo.set k (.loop l r ks cs st')) ∧ Le μ w μ (w.putObj l (.loop { r with state := st'.state, pending := p' })) := by
  obtain ⟨h1, p, h2, h3, h4, h5⟩ := loop_at hi hk
  have hkl := get_lt hk
  have hset : μ.set (ba.length + k) (.cells l) = μ := by
    apply List.ext_getElem?
    intro i
    rw [List.getElem?_set]
    split
    · rename_i e
      subst e
      rw [if_pos (get_lt h1), h1]
    · rfl
  have hlt := (Array.getElem?_eq_some_iff.1 h2).1
  have q := hi.change (w' := w.putObj l (.loop { r with state := st'.state, pending := p' })) (ba' := ba) (lo' := lo.set k (.loop l r ks cs st')) (m' := .cells l) h1 (.refl _) (fun b hb => .inl hb) rfl rfl rfl (by simp) (fun b hb hne => World.putObj_heap_other fun e => hne (by rw [e]; rfl)) rfl (by simp) (fun _ _ => rfl)
    (fun k' hk' => by rw [List.getElem?_set_ne (by omega)]) (fun _ o hlt2 _ => by omega) (fun hle k' o he ho => by
      have : k' = k := by omega
      subst this
      rw [List.getElem?_set] at ho
      simp only [if_true, hkl] at ho
      cases ho
      rw [hset] at hle ⊢
      exact .loop l r ks cs st' p' (World.putObj_heap_same hlt) hp h4 fun j t c hj hc => (h5 j t c hj hc).mono hle.stays hle.above)
  rw [hset] at q
  exact q

/-- THE READING OF A PIECE OF CODE IS RIGHT. -/
theorem W_both {own : List Nat} (hm : P.follows .mixedOrders = true) : ∀ (ic : IC) (ro : Option Nat) (nd : Nat), (ro = none ∨ ic.noR = true) → ∀ {B : Nat} {T : List Deferred}, Snd P N B T ro nd own ic ∧ Chn P N B T ro nd own ic := by
  intro ic
  have seqs : ∀ (ro : Option Nat) (nd B : Nat) (T : List Deferred) (x y : IC) (f : FR → FR), (∀ {μ w a fr ba lo}, Rel N B T μ w a fr ba lo → Rel N B T μ w a (f fr) ba lo) → Snd P N B T ro nd own x → Snd P N B T ro nd own y →
      ∀ (c : Code), compC P N own c = some (.seq x.bare y.bare) → ∀ {fr : FR} {ba lo : List Ob} {Q : Exit → FR → List Ob → List Ob → Prop}, W P x fr ba lo (thenQ (fun fr ba lo => W P y (f fr) ba lo Q) Q) → ∀ {μ : List MI} {w : World} {a : Act}, Rel N B T μ w a fr ba lo → c.wpIn (FW ro) nd P (Post N B T μ w ba.length Q) a w := by
    intro ro nd B T x y f hf ihx ihy c hc fr ba lo Q h μ w a hr
    cases reads_of hc with
    | seq c1 c2 _ _ h1 h2 =>
      refine wpIn_seq (wpIn_mono (ihx c1 h1 h hr) fun e a' w' hp => ?_)
      obtain ⟨μ', fr', ba', lo', g1, g2, g3, g4⟩ := hp
      cases e with
      | normal =>
        refine wpIn_mono (ihy c2 h2 g1 (hf g2)) fun e a'' w'' hp => ?_
        rw [g4] at hp
        exact hp.from g3
      | exit id => exact ⟨μ', fr', ba', lo', g1, g2, g3, g4⟩
      | goto l => exact ⟨μ', fr', ba', lo', g1, g2, g3, g4⟩
      | ret => exact ⟨μ', fr', ba', lo', g1, g2, g3, g4⟩
      | panic ch => exact ⟨μ', fr', ba', lo', g1, g2, g3, g4⟩
      | outgrown => exact ⟨μ', fr', ba', lo', g1, g2, g3, g4⟩
  induction ic with
  | skip =>
    intro ro nd hno B T
    refine both (fun _ _ _ e => by cases e) ?_
    intro c hc fr ba lo Q h μ w a hr
    cases reads_of hc
    exact wpIn_skip ⟨μ, fr, ba, lo, h, hr, .refl _ _, rfl⟩
  | ops l =>
    intro ro nd hno B T
    refine both (fun _ _ _ e => by cases e) ?_
    intro c hc fr ba lo Q h μ w a hr
    cases reads_of hc with
    | ops id ops _ his =>
      refine wpIn_region ?_
      have := ops_sound (ro := ro) (nd := nd) (Q := Post N B T μ w ba.length Q) ops.toList l 0 rfl his h hr fun fr' ba' lo' μ' w' a' g1 g2 g3 g4 => ⟨μ', fr', ba', lo', g1, g2, g3, g4⟩
      rw [List.range_eq_range']
      simpa using this
  | dops l =>
    intro ro nd hno B T
    refine both (fun _ _ _ e => by cases e) ?_
    intro c hc fr ba lo Q h μ w a hr
    cases reads_of hc with
    | dops id ops _ his hd =>
      have := dops_sound (ro := ro) (nd := nd) (id := id) (Q := Post N B T μ w ba.length Q) his hd hm h hr fun fr' ba' lo' μ' w' a' g1 g2 g3 g4 => ⟨μ', fr', ba', lo', g1, g2, g3, g4⟩
      simpa using this
  | eops l bs =>
    intro ro nd hno B T
    refine both (fun _ _ _ e => by cases e) ?_
    intro c hc fr ba lo Q h μ w a hr
    cases reads_of hc with
    | eops id ops _ his hd =>
      have := eops_sound (ro := ro) (nd := nd) (id := id) (Q := Post N B T μ w ba.length Q) his hd hm h hr fun fr' ba' lo' μ' w' a' g1 g2 g3 g4 => ⟨μ', fr', ba', lo', g1, g2, g3, g4⟩
      simpa using this
  | pops l =>
    intro ro nd hno B T
    refine both (fun _ _ _ e => by cases e) ?_
    intro c hc fr ba lo Q h μ w a hr
    cases reads_of hc with
    | pops id ops _ his =>
      refine wpIn_region ?_
      have := pops_sound (ro := ro) (nd := nd) (Q := Post N B T μ w ba.length Q) ops.toList l 0 rfl his h hr (fun fr' ba' lo' μ' w' a' g1 g2 g3 g4 => ⟨μ', fr', ba', lo', g1, g2, g3, g4⟩) fun ch ba' lo' μ' w' a' g1 g2 g3 g4 => ⟨μ', dropF (dstsI l) fr, ba', lo', g1, g2, g3, g4⟩
      rw [List.range_eq_range']
      simpa using this
  | qops l bs =>
    intro ro nd hno B T
    refine both (fun _ _ _ e => by cases e) ?_
    intro c hc fr ba lo Q h μ w a hr
    cases reads_of hc with
    | qops id ops _ his hd =>
      have := qops_sound (ro := ro) (nd := nd) (id := id) (Q := Post N B T μ w ba.length Q) his hd hm h hr (fun fr' ba' lo' μ' w' a' g1 g2 g3 g4 => ⟨μ', fr', ba', lo', g1, g2, g3, g4⟩) fun ch ba' lo' μ' w' a' g1 g2 g3 g4 => ⟨μ', [], ba', lo', g1, g2, g3, g4⟩
      simpa using this
  | seq x y ihx ihy =>
    intro ro nd hno B T
    refine both (fun _ _ _ e => by cases e) ?_
    intro c hc fr ba lo Q h μ w a hr
    exact seqs ro nd B T x y id (fun h => h) (ihx ro nd (noL hno)).1 (ihy ro nd (noE hno)).1 c hc h hr
  | cut ks x y ihx ihy =>
    intro ro nd hno B T
    refine both (fun _ _ _ e => by cases e) ?_
    intro c hc fr ba lo Q h μ w a hr
    refine seqs ro nd B T x y (fun fr => ks.map fun t => (t, getF fr t)) (fun h => h.proj ks) (ihx ro nd (noL hno)).1 (ihy ro nd (noE hno)).1 c hc ?_ hr
    simp only [W_cut, projK_eq] at h
    exact h
  | cond r x y ihx ihy =>
    intro ro nd hno B T
    refine both (fun _ _ _ e => by cases e) ?_
    intro c hc fr ba lo Q h μ w a hr
    cases reads_of hc with
    | cond o _ c1 c2 _ _ h0 h1 h2 =>
      simp only [W_cond, evK_eq] at h
      split at h
      · rename_i t e
        have hv := hr.eval h0
        rw [e] at hv
        have h := splitB_out h
        refine wpIn_cond hv.bool_inv ?_
        cases t with
        | true => exact (ihx ro nd (noL hno)).1 c1 h1 h hr
        | false => exact (ihy ro nd (noE hno)).1 c2 h2 h hr
      · exact h.elim
  | block id x ihx =>
    intro ro nd hno B T
    refine both (fun _ _ _ e => by cases e) ?_
    intro c hc fr ba lo Q h μ w a hr
    cases reads_of hc with
    | block _ c1 _ h1 =>
      refine wpIn_block (wpIn_mono ((ihx ro nd hno).1 c1 h1 h hr) fun e a' w' hp => ?_)
      obtain ⟨μ', fr', ba', lo', g1, g2, g3, g4⟩ := hp
      cases e with
      | exit i =>
        simp only [Exit.inBlock]
        by_cases hi : i = id
        · rw [if_pos hi]
          subst hi
          have g1' : (bif Nat.beq i i then Q .normal else Q (.exit i)) fr' ba' lo' := g1
          have hb : Nat.beq i i = true := by simp
          rw [hb] at g1'
          exact ⟨μ', fr', ba', lo', g1', g2, g3, g4⟩
        · rw [if_neg hi]
          have g1' : (bif Nat.beq i id then Q .normal else Q (.exit i)) fr' ba' lo' := g1
          rw [beq_ne hi] at g1'
          exact ⟨μ', fr', ba', lo', g1', g2, g3, g4⟩
      | normal => exact ⟨μ', fr', ba', lo', g1, g2, g3, g4⟩
      | goto l => exact ⟨μ', fr', ba', lo', g1, g2, g3, g4⟩
      | ret => exact ⟨μ', fr', ba', lo', g1, g2, g3, g4⟩
      | panic ch => exact ⟨μ', fr', ba', lo', g1, g2, g3, g4⟩
      | outgrown => exact ⟨μ', fr', ba', lo', g1, g2, g3, g4⟩
  | loop ks x ihx =>
    intro ro nd hno B T
    refine both (fun _ _ _ e => by cases e) ?_
    intro c hc fr ba lo Q h μ w a hr
    cases reads_of hc with
    | loop c1 _ h1 =>
      simp only [W_loop, projK_eq] at h
      refine wp_of_in ?_
      refine h (fun fr' ba' lo' => ba'.length = ba.length → ∀ (μ' : List MI) (w' : World) (a' : Act), Rel N B T μ' w' a' fr' ba' lo' → inLoop (FW ro) nd P c1 (Post N B T μ' w' ba'.length Q) a' w') ?_ rfl μ w a (hr.proj ks)
      intro fr1 ba1 lo1 h2 hba μ1 w1 a1 hr1
      refine in_round (wpIn_mono ((ihx ro nd hno).1 c1 h1 h2 hr1) fun e a' w' hp => ?_)
      obtain ⟨μ', fr', ba', lo', g1, g2, g3, g4⟩ := hp
      cases e with
      | normal =>
        simp only [thenQ, roundQ, projK_eq] at g1
        split at g1
        · rename_i k0
          simp only [Bool.and_eq_true] at k0
          obtain ⟨k2, k3⟩ := k0
          obtain ⟨k1, k4⟩ := takeK_out _ _ _ g1
          have hn : μ1.length = ba1.length + lo1.length := hr1.inv.len
          have hrel : Rel N B T (μ'.take (ba'.length + lo1.length)) w' a' (ks.map fun t => (t, getF fr' t)) ba' (lo'.take lo1.length) :=
            ⟨g2.inv.trunc k1 k3, g2.size, g2.base, g2.defers.take _, fun t => by
              have hst : Stays (blocks μ') w' (blocks (μ'.take (ba'.length + lo1.length))) w' := ⟨Nat.le_refl _, fun b _ hb => ⟨fun hc => hb (blocks_take hc), rfl⟩⟩
              exact ((g2.proj ks).vals t).to_takeN hst (frLowL_get k2 t)⟩
          have hle : Le μ1 w1 (μ'.take (ba'.length + lo1.length)) w' := by
            have := g3.trunc
            rw [hn] at this
            rw [g4]
            exact this
          refine inLoop_mono (k4 (by rw [g4, hba]) _ _ _ hrel) fun e a'' w'' hp => ?_
          have hp2 := hp.from hle
          rw [g4] at hp2
          exact hp2
        · refine inLoop_mono (g1 (by rw [g4, hba]) _ _ _ (g2.proj ks)) fun e a'' w'' hp => ?_
          have hp2 := hp.from g3
          rw [g4] at hp2
          exact hp2
      | exit id => exact ⟨μ', fr', ba', lo', g1, g2, g3, g4⟩
      | goto l => exact ⟨μ', fr', ba', lo', g1, g2, g3, g4⟩
      | ret => exact ⟨μ', fr', ba', lo', g1, g2, g3, g4⟩
      | panic ch => exact ⟨μ', fr', ba', lo', g1, g2, g3, g4⟩
      | outgrown => exact ⟨μ', fr', ba', lo', g1, g2, g3, g4⟩
  | exit id =>
    intro ro nd hno B T
    refine both (fun _ _ _ e => by cases e) ?_
    intro c hc fr ba lo Q h μ w a hr
    cases reads_of hc
    exact wpIn_exit ⟨μ, fr, ba, lo, h, hr, .refl _ _, rfl⟩
  | ret =>
    intro ro nd hno B T
    refine both (fun _ _ _ e => by cases e) ?_
    intro c hc fr ba lo Q h μ w a hr
    cases reads_of hc
    exact wpIn_ret ⟨μ, fr, ba, lo, h, hr, .refl _ _, rfl⟩
  | bad => exact fun ro nd hno B T => both (fun _ _ _ e => by cases e) fun c hc fr ba lo Q h => (show False from h).elim
  | label l =>
    intro ro nd hno B T
    refine both (fun _ _ _ e => by cases e) ?_
    intro c hc fr ba lo Q h μ w a hr
    cases reads_of hc
    exact wpIn_label ⟨μ, fr, ba, lo, h, hr, .refl _ _, rfl⟩
  | goto l ks =>
    intro ro nd hno B T
    refine both (fun _ _ _ e => by cases e) ?_
    intro c hc fr ba lo Q h μ w a hr
    cases reads_of hc
    replace h : projK ks fr fun fr => Q (.goto l) fr ba lo := h
    rw [projK_eq] at h
    exact wpIn_goto ⟨μ, _, ba, lo, h, hr.proj ks, .refl _ _, rfl⟩
  | lab l x y ihx ihy =>
    intro ro nd hno B T
    refine both (fun l' x' y' e => by cases e; exact ⟨(ihx ro nd (noL hno)).1, (ihy ro nd (noE hno)).2⟩) ?_
    intro c hc
    cases reads_of hc
  | scope d ihd =>
    intro ro nd hno B T
    refine both (fun _ _ _ e => by cases e) ?_
    intro c hc fr ba lo Q h μ w a hr
    cases reads_of hc with
    | scope c' x _ h1 h2 =>
      replace h : ∀ R : Nat → FR → List Ob → List Ob → Prop, W P d fr ba lo (scopeQ R Q) := h
      let R : Nat → FR → List Ob → List Ob → Prop := fun l fr' ba' lo' => ba'.length = ba.length → ∀ μ' w' a', Rel N B T μ' w' a' fr' ba' lo' → ScopeAt (FW ro) nd P c' l (Post N B T μ' w' ba.length Q) a' w'
      have conv : ∀ {μ w e a' w'}, Post N B T μ w ba.length (scopeQ R Q) e a' w' → Exit.lab (FW ro) nd P c' (Post N B T μ w ba.length Q) e a' w' := by
        intro μ w e a' w' hp
        obtain ⟨μ', fr', ba', lo', g1, g2, g3, g4⟩ := hp
        cases e with
        | goto l => exact ((show R l fr' ba' lo' from g1) g4 _ _ _ g2).mono fun e a w hp => hp.from g3
        | normal => exact ⟨μ', fr', ba', lo', g1, g2, g3, g4⟩
        | exit id => exact ⟨μ', fr', ba', lo', g1, g2, g3, g4⟩
        | ret => exact ⟨μ', fr', ba', lo', g1, g2, g3, g4⟩
        | panic ch => exact ⟨μ', fr', ba', lo', g1, g2, g3, g4⟩
        | outgrown => exact ⟨μ', fr', ba', lo', g1, g2, g3, g4⟩
      refine wp_scope_lab (wpIn_mono ((ihd ro nd hno).2 c' x (labelsI x) h1 h2 (h R) (fun l r hf fr ba2 lo2 hyp => ?_) hr) fun e a' w' hp => conv hp)
      intro hlen μ' w' a' hrel
      have q := hyp μ' w' a' hrel
      rw [hlen] at q
      exact at_label hf (wpIn_mono q fun e a w hp => conv hp)

  | rangeF ks x ps p q ihp ihq =>
    intro ro nd hno B T
    refine both (fun _ _ _ e => by cases e) ?_
    intro c hc fr ba lo Q h μ w a hr
    have hro : ro = none := by
      rcases hno with h1 | h1
      · exact h1
      · cases h1
    subst hro
    cases reads_of hc with
    | rangeF g _ params assign body _ _ _ hg hcp hcq hps e =>
      subst e
      replace h : rangeS P ks x params.toList (p.noR && q.noR) (W P p) (W P q) fr ba lo Q := h
      simp only [rangeS, projK_eq, evK_eq] at h
      obtain ⟨hnr, h⟩ := h
      rw [colK_eq] at h
      simp only [Bool.and_eq_true] at hnr
      obtain ⟨hnp, hnq⟩ := hnr
      -- the rounds
      have rounds : ∀ (l : Nat) (r : Loop), r.tmps.size = N → r.params = params → r.assign = assign → r.body = body → ∀ (k : Nat) (pl : List AV) (ba' lo' : List Ob) (K : AV → List Ob → List Ob → Prop), roundV k l r params.toList (W P p) (W P q) pl ba' lo' K → YieldVC P l pl ba' lo' K := by
        intro l r hsz hrp hra hrb k pl ba' lo' K hround
        refine ⟨fun n μ2 w2 xs hi2 hx2 => ?_⟩
        unfold roundV at hround
        obtain ⟨o, ho, hround⟩ := atK_out _ _ _ hround
        split at hround
        · rename_i l' r' ks2 cs2
          obtain ⟨⟨e1, e2⟩, hround⟩ := hround
          subst e1; subst e2
          obtain ⟨_, p2, h1, h2, h0, h3⟩ := loop_at hi2 ho
          have h2' : p2 = none := h2
          subst h2'
          obtain ⟨hpl, hround⟩ := setPsK_out _ _ _ _ (zipK_out _ _ _ hround)
          have hsx : xs.size = pl.length := hx2.1
          have hpx : xs.size = r'.params.size := by rw [hsx, ← hpl, hrp]; simp
          refine ⟨_, _, _, _, run_yield h1 hpx, roundIn_of_wpIn (F := Fence.wide) trivial ?_⟩
          have hfold : (r'.params.zip xs).foldl (fun tmps (t, a) => tmps.setIfInBounds t a) r'.tmps = (params.toList.zip xs.toList).foldl (fun tmps (p : Nat × Value) => tmps.setIfInBounds p.1 p.2) r'.tmps := by
            rw [hrp, ← Array.foldl_toList]
            simp [Array.toList_zip]
          obtain ⟨v1, v2⟩ := setPs_vals (N := N) (Γ := ⟨blocks μ2, ba'.length, μ2⟩) (w := w2) params.toList pl xs.toList r'.tmps (ks2.zip cs2) hps hsz hpl (by simpa using hsx) (fun j x e g1 g2 => hx2.2 j x e (by simpa using g1) g2) (zip_vals _ _ h3)
          have hrel2 : Rel N 0 [] μ2 w2 { tmps := (r'.params.zip xs).foldl (fun tmps (t, a) => tmps.setIfInBounds t a) r'.tmps, defers := [] } (setPs params.toList pl (ks2.zip cs2)) ba' lo' := by
            rw [hfold]
            exact ⟨hi2, v1, Nat.zero_le _, .nil, v2⟩
          show Code.wpIn (FW (some l')) n P r'.assign _ _ _
          refine wpIn_mono ((ihp (some l') n (.inr hnp) (B := 0)).1 r'.assign (by rw [hra]; exact hcp) hround hrel2) fun e a3 w3 hp3 => ?_
          obtain ⟨μ3, fr3, ba3, lo3, g1, g2, g3, g4⟩ := hp3
          cases e with
          | normal =>
            obtain ⟨o3, ho3, g1⟩ := atK_out _ _ _ g1
            split at g1
            · rename_i l3 r3 ks3 cs3
              obtain ⟨⟨e1, e2⟩, g1⟩ := g1
              subst e1; subst e2
              obtain ⟨hlt3, g1⟩ := setAtK_out _ _ _ _ g1
              obtain ⟨_, p3, k1, k2, _, _⟩ := loop_at g2.inv ho3
              have k2' : p3 = none := k2
              subst k2'
              obtain ⟨hi4, hle4⟩ := loop_step .busy none g2.inv ho3 rfl
              refine ⟨_, run_beginRound k1 rfl, ?_⟩
              have hrel4 : Rel N 0 [] μ3 (w3.putObj l3 (.loop { r3 with state := .busy, pending := none })) a3 fr3 ba3 (lo3.set k (.loop l3 r3 ks3 cs3 .busy)) :=
                ⟨hi4, g2.size, Nat.zero_le _, g2.defers.mono hle4.stays, fun t => (g2.vals t).mono hle4.stays hle4.above⟩
              show Code.wpIn (FW (some l3)) n P r3.body _ _ _
              refine wpIn_mono ((ihq (some l3) n (.inr hnq) (B := 0)).1 r3.body (by rw [hrb]; exact hcq) g1 hrel4) fun e a5 w5 hp5 => ?_
              obtain ⟨μ5, fr5, ba5, lo5, q1, q2, q3, q4⟩ := hp5
              have fin : ∀ (st : LSt) (b : Bool) (jump : Option Code), roundK k l3 r3 st b K ba5 lo5 → b = jump.isNone → st.state = (if jump.isNone then .ready else .done) → st.pend jump →
                  ∃ v w', (Instr.endRound l3 jump).run P w5 = .ok v w' ∧ ∃ v' r μ' ba' lo', Ending.returned v = .returned v' ∧ VA ⟨blocks μ', ba5.length, μ'⟩ w' v' r ∧ Inv μ' w' ba' lo' ∧ Le μ2 w2 μ' w' ∧ ba'.length = ba5.length ∧ K r ba' lo' := by
                intro st b jump hk hb hst hpd
                unfold roundK at hk
                obtain ⟨o5, ho5, hk⟩ := atK_out _ _ _ hk
                split at hk
                · rename_i l5 r5 ks5 cs5
                  obtain ⟨⟨e1, e2⟩, hk⟩ := hk
                  subst e1; subst e2
                  obtain ⟨_, hk⟩ := setAtK_out _ _ _ _ hk
                  obtain ⟨_, p5, s1, s2, _, _⟩ := loop_at q2.inv ho5
                  obtain ⟨hi6, hle6⟩ := loop_step st jump q2.inv ho5 hpd
                  have hend := run_endRound (P := P) jump s1
                  refine ⟨_, _, hend, _, .p (.bool b), μ5, ba5, _, rfl, by rw [hb]; exact .p _ _ (.bool _), ?_, ?_, rfl, hk⟩
                  · rw [hst] at hi6; exact hi6
                  · rw [hst] at hle6; exact (g3.trans hle4).trans (q3.trans hle6)
                · exact hk.elim
              have hlen5 : ba5.length = ba'.length := q4.trans g4
              rw [hlen5] at fin
              cases e with
              | normal => exact fin .ready true none q1 rfl rfl rfl
              | ret => exact fin (.done .ret) false (some .ret) q1 rfl rfl rfl
              | exit i => exact fin (.done (.exit i)) false (some (.exit i)) q1 rfl rfl rfl
              | goto i => exact fin (.done (.goto i)) false (some (.goto i)) q1 rfl rfl rfl
              | panic ch => exact q1.elim
              | outgrown => exact q1.elim
            · exact g1.elim
          | exit id => exact g1.elim
          | goto l => exact g1.elim
          | ret => exact g1.elim
          | panic ch => exact g1.elim
          | outgrown => exact g1.elim
        · exact hround.elim
      refine wpIn_rangeFunc fun fn _ => ?_
      obtain ⟨rc, hrc⟩ : ∃ rc : Loop, rc = { state := .ready, pending := none, fn := fn, tmps := a.tmps, params := params, assign := assign, body := body, defers := w.heap.size } := ⟨_, rfl⟩
      obtain ⟨w1, hw1⟩ : ∃ w1, w1 = (w.alloc (.deferred (some []))).alloc (.loop rc) := ⟨_, rfl⟩
      have hsz1 : w1.heap.size = w.heap.size + 2 := by rw [hw1]; simp
      have hold : ∀ b, b < w.heap.size → w1.heap[b]? = w.heap[b]? := fun b hb => by
        rw [hw1, heap_alloc_old _ _ b (by simp; omega), heap_alloc_old _ _ b hb]
      have hmark : w1.heap[w.heap.size]? = some (.deferred (some [])) := by
        rw [hw1, heap_alloc_old _ _ _ (by simp)]; exact World.alloc_heap_new w _
      have hloop : w1.heap[w.heap.size + 1]? = some (.loop rc) := by
        rw [hw1]; have := World.alloc_heap_new (w.alloc (.deferred (some []))) (.loop rc); rwa [World.size_alloc] at this
      obtain ⟨hi1, hle1, hat1⟩ := hr.inv.push (w' := w1) (.cells (w.heap.size + 1)) (.loop (w.heap.size + 1) rc ks ((ks.map fun t => (t, getF fr t)).map (·.2)) .ready) (fun b hb => by cases hb; omega) (by rw [hw1]; rfl) (by rw [hw1]; rfl) (by rw [hw1]; rfl) (by omega) hold
        (fun hle => .loop _ rc ks _ .ready none (by rw [hloop, hrc]; rfl) rfl (by simp) fun j t c hj hcj => by
          rw [List.getElem?_map, List.getElem?_map, hj] at hcj
          cases hcj
          rw [hrc]
          exact (hr.vals t).mono hle.stays hle.above)
      replace h := h (w.heap.size + 1) rc
      rw [pushK_eq] at h
      replace h := h (rounds (w.heap.size + 1) rc (by rw [hrc]; exact hr.size) (by rw [hrc]) (by rw [hrc]) (by rw [hrc]) lo.length)
      have hDn : ¬ blocks (μ ++ [.cells (w.heap.size + 1)]) w.heap.size := by
        rintro ⟨i, m, hm, hb⟩
        rcases Nat.lt_or_ge i μ.length with hl | hl
        · rw [List.getElem?_append_left hl] at hm
          have := hr.inv.block_lt ⟨i, m, hm, hb⟩
          omega
        · rw [List.getElem?_append_right hl] at hm
          have : i - μ.length = 0 := by have := get_lt hm; simp at this; omega
          rw [this] at hm
          simp at hm
          subst hm
          simp [MI.block?] at hb
      have hmarks1 : Marks B T (μ ++ [.cells (w.heap.size + 1)]) w1 ({ target := .collected w.heap.size, args := #[] } :: a.defers) := by
        obtain ⟨Ds, d1, d2, d3⟩ := hr.defers
        refine ⟨w.heap.size :: Ds, by rw [d1]; rfl, List.nodup_cons.2 ⟨fun hc => ?_, d2⟩, fun D hD => ?_⟩
        · have := (Array.getElem?_eq_some_iff.1 (d3 _ hc).2.2).1; omega
        · rcases List.mem_cons.1 hD with rfl | hD
          · exact ⟨hr.base, hDn, hmark⟩
          · obtain ⟨g1, g2, g3⟩ := d3 D hD
            obtain ⟨k1, k2⟩ := hle1.stays.2 D (Array.getElem?_eq_some_iff.1 g3).1 g2
            exact ⟨g1, k1, k2.trans g3⟩
      -- behind the call
      have behind : ∀ (f : Nat) (args : Array Value) (as : List AV), CallVC P f as ba (lo ++ [.loop (w.heap.size + 1) rc ks ((ks.map fun t => (t, getF fr t)).map (·.2)) .ready]) (loopEndK lo.length (w.heap.size + 1) rc Q) → VAs ⟨blocks (μ ++ [.cells (w.heap.size + 1)]), ba.length, μ ++ [.cells (w.heap.size + 1)]⟩ w1 args as →
          CallsIn (FW none) (nd - 1) P f args w1 (rangePost (FW none) nd P (w.heap.size + 1) (Post N B T μ w ba.length Q) { a with defers := [{ target := .collected w.heap.size, args := #[] }] ++ a.defers }) := fun f args as hcall hargs => by
        refine (calls_FW none (nd - 1) (hcall.out _ w1 args hi1 hargs)).mono fun e w2 hw2 => ?_
        obtain ⟨v, r, μ2, ba2, lo2, rfl, g1, g2, g3, g4, g5⟩ := hw2
        unfold loopEndK at g5
        obtain ⟨o, ho, g5⟩ := atK_out _ _ _ g5
        split at g5
        · rename_i l' r' ks2 cs2 st
          obtain ⟨⟨e1, e2⟩, g5⟩ := g5
          obtain ⟨hlt, g5⟩ := setAtK_out _ _ _ _ g5
          replace g5 := zipK_out _ _ _ g5
          rw [e1, e2] at ho
          obtain ⟨_, p2, s1, s2, s3, s4⟩ := loop_at g2 ho
          obtain ⟨hi3, hle3⟩ := loop_step .over p2 g2 ho trivial
          have hnb : st ≠ .busy := by intro e; subst e; exact g5
          have hend := run_endLoop (P := P) s1 (by
            show st.state ≠ .busy
            cases st <;> simp [LSt.state] at hnb ⊢)
          have hrel : Rel N B T μ2 (w2.putObj (w.heap.size + 1) (.loop { rc with state := .exhausted, pending := p2 })) { a with defers := [{ target := .collected w.heap.size, args := #[] }] ++ a.defers } (ks2.zip cs2) ba2 (lo2.set lo.length (.loop (w.heap.size + 1) rc ks2 cs2 .over)) := by
            refine ⟨hi3, hr.size, ?_, (hmarks1.mono g3.stays).mono hle3.stays, fun t => ?_⟩
            · exact Nat.le_trans hr.base (Nat.le_trans hle1.stays.1 (Nat.le_trans g3.stays.1 hle3.stays.1))
            · have := zip_vals ks2 cs2 s4 t
              rw [hrc] at this
              exact this.mono hle3.stays hle3.above
          have hle : Le μ w μ2 (w2.putObj (w.heap.size + 1) (.loop { rc with state := .exhausted, pending := p2 })) := hle1.trans (g3.trans hle3)
          refine ⟨p2, _, hend, ?_⟩
          cases st with
          | ready =>
            have s2' : p2 = none := s2
            subst s2'
            exact ⟨μ2, _, ba2, _, g5, hrel, hle, g4⟩
          | done e =>
            have s2' : p2 = some (codeOf e) := s2
            subst s2'
            cases e with
            | ret => exact wpIn_ret ⟨μ2, _, ba2, _, g5, hrel, hle, g4⟩
            | exit i => exact wpIn_exit ⟨μ2, _, ba2, _, g5, hrel, hle, g4⟩
            | goto i => exact wpIn_goto ⟨μ2, _, ba2, _, g5, hrel, hle, g4⟩
            | normal => exact g5.elim
            | panic ch => exact g5.elim
            | outgrown => exact g5.elim
          | busy => exact g5.elim
          | over => exact g5.elim
        · exact g5.elim
      have hv := hr.eval hg
      have henter : (Instr.enterLoop fn a.tmps params assign body (FW none).round).run P w = .ok (w.heap.size + 1, [{ target := .collected w.heap.size, args := #[] }]) w1 := by
        rw [hw1, hrc]; exact run_enterLoop_outer _ _ _ _ _
      unfold rangeCallK at h
      split at h
      · rename_i f e1
        obtain ⟨hen, hcall⟩ := h
        rw [e1] at hv
        have hp := hv.pv
        generalize hx : a.eval g = x at hp
        cases hp
        refine ⟨w.heap.size + 1, [{ target := .collected w.heap.size, args := #[] }], w1, { target := .fn (.func f) #[], args := #[.func (.yield (w.heap.size + 1)) #[] #[]] }, w1, f, #[.func (.yield (w.heap.size + 1)) #[] #[]] ++ #[], w1, henter, ?_, fun _ _ => trivial, ?_, fun e => (by cases e), behind f _ _ hcall ⟨rfl, fun j y c hy hcj => ?_⟩⟩
        · simp only [resolve, hx]
          simp [go_sem]
        · simp [invoke, enters_run hen]
        · match j, hy, hcj with
          | 0, hy, hcj => simp at hy hcj; subst hy; subst hcj; exact .p _ _ (.fn _)
      · rename_i f cap e1
        obtain ⟨hen, hcall⟩ := h
        rw [e1] at hv
        generalize hx : a.eval g = x at hv
        cases hv with
        | clos _ xs ys _ _ h1 h2 h3 h4 =>
          have hxs : xs = #[] := by simpa using h1
          subst hxs
          refine ⟨w.heap.size + 1, [{ target := .collected w.heap.size, args := #[] }], w1, { target := .fn (.func f) ys, args := #[.func (.yield (w.heap.size + 1)) #[] #[]] }, w1, f, #[.func (.yield (w.heap.size + 1)) #[] #[]] ++ ys, w1, henter, ?_, fun _ _ => trivial, ?_, fun e => (by cases e), behind f _ _ hcall ⟨by simp [h2]; omega, fun j y c hy hcj => ?_⟩⟩
          · simp only [resolve, hx]
            simp [go_sem]
          · simp [invoke, enters_run hen]
          · cases j with
            | zero =>
              rw [Array.getElem?_append_left (by simp)] at hy
              simp at hy hcj; subst hy; subst hcj; exact .p _ _ (.fn _)
            | succ j =>
              rw [Array.getElem?_append_right (by simp)] at hy
              exact (h4 j y c (by simpa using hy) (by simpa using hcj)).mono hle1.stays hle1.above
      · exact h.elim

/-- THE READING OF A PIECE OF CODE IS RIGHT. -/
theorem W_sound {own : List Nat} (hm : P.follows .mixedOrders = true) (nd : Nat) (ic : IC) (c : Code) (hc : compC P N own c = some ic.bare) {fr : FR} {ba lo : List Ob} {Q : Exit → FR → List Ob → List Ob → Prop} (h : W P ic fr ba lo Q)
    {μ : List MI} {w : World} {a : Act} (hr : Rel N B T μ w a fr ba lo) : c.wpIn (FW none) nd P (Post N B T μ w ba.length Q) a w := (W_both hm ic none nd (.inl rfl)).1 c hc h hr

/-! #### functions -/

theorem frameOf_get : ∀ (l : List AV) (n t : Nat), getF (frameOf n l) t = if n ≤ t then (l[t - n]?).getD (.p .undef) else .p .undef
  | [], n, t => by simp [frameOf, getF]
  | a :: r, n, t => by
    simp only [frameOf, getF]
    by_cases h : n = t
    · subst h; simp
    · rw [beq_ne h]
      simp only [cond_false]
      rw [frameOf_get r (n + 1) t]
      by_cases h2 : n + 1 ≤ t
      · rw [if_pos h2, if_pos (by omega), show t - n = (t - (n + 1)) + 1 by omega]; rfl
      · rw [if_neg h2, if_neg (by omega)]

/-- What a result's variable holds. -/
def resRun (tmps : Array Value) (r : ResultVar) : Sem Value :=
  match r with
  | .tmp t => pure (tmps.getD t undef)
  | .cell a t => do loadVar t (← asAddr (tmps.getD a undef))

theorem results_eq (fn : Func) (tmps : Array Value) : results fn tmps = (do
    let vs ← fn.results.mapM (resRun tmps)
    pure (if h : vs.size = 1 then vs[0] else .tuple vs)) := by
  unfold results
  congr 2

theorem ressK_out : ∀ (rs : List ResultVar) (irs : List IRes), compR P rs = some irs → ∀ {μ : List MI} {w : World} {a : Act} {fr : FR} {ba lo : List Ob} {K : List AV → Prop}, ressK fr ba lo irs K → Rel N B T μ w a fr ba lo →
    ∃ (as : List AV) (vs : List Value), K as ∧ (rs.mapM (resRun a.tmps)).run P w = .ok vs w ∧ vs.length = as.length ∧ ∀ (j : Nat) (x : Value) (c : AV), vs[j]? = some x → as[j]? = some c → VA ⟨blocks μ, ba.length, μ⟩ w x c
  | [], irs, hc, μ, w, a, fr, ba, lo, K, h, hr => by
    cases hc
    exact ⟨[], [], h, rfl, rfl, fun j x c hx => by simp at hx⟩
  | r :: rs, irs, hc, μ, w, a, fr, ba, lo, K, h, hr => by
    have next : ∀ {irs' : List IRes} {v : AV} {c : Value}, compR P rs = some irs' → (resRun a.tmps r).run P w = .ok c w → VA ⟨blocks μ, ba.length, μ⟩ w c v → ressK fr ba lo irs' (fun as => K (v :: as)) →
        ∃ (as : List AV) (vs : List Value), K as ∧ ((r :: rs).mapM (resRun a.tmps)).run P w = .ok vs w ∧ vs.length = as.length ∧ ∀ (j : Nat) (x : Value) (c : AV), vs[j]? = some x → as[j]? = some c → VA ⟨blocks μ, ba.length, μ⟩ w x c := fun {irs' v c} h1 h2 h3 h4 => by
      obtain ⟨as, vs, g1, g2, g3, g4⟩ := ressK_out rs irs' h1 h4 hr
      refine ⟨v :: as, c :: vs, g1, ?_, by simp [g3], fun j x e hx he => ?_⟩
      · simp only [List.mapM_cons, Sem.run_bind, h2, Result.andThen, g2, Sem.run_pure]
      · cases j with
        | zero => simp at hx he; subst hx; subst he; exact h3
        | succ j => exact g4 j x e (by simpa using hx) (by simpa using he)
    cases r with
    | tmp t =>
      simp only [compR] at hc
      obtain ⟨irs', h1, rfl⟩ := map_some hc
      simp only [ressK, resK, getK_eq] at h
      exact next h1 rfl (hr.vals t) h
    | cell t ty =>
      simp only [compR] at hc
      split at hc
      · rename_i n irs' h0 h1
        cases hc
        simp only [ressK, resK, getK_eq] at h
        split at h
        · rename_i m off e
          obtain ⟨o, ho, h⟩ := atK_out _ _ _ h
          split at h
          · rename_i cs
            obtain ⟨hl, h⟩ := dropK_out _ _ _ h
            obtain ⟨v, hk, hrd⟩ := readA_out h0 h
            have hv := hr.vals t
            rw [e] at hv
            obtain ⟨mi, g1, g2⟩ := hr.inv.at_l ho
            obtain ⟨b, xs, t', rfl, g3, g4, g5, g6⟩ := g2.acells
            have g7 := ref_inv hv g1
            obtain ⟨c, g8, g9⟩ := hrd _ w b (0 + off) (g6.drop off)
            rw [Nat.zero_add] at g8
            refine next h1 ?_ g9 hk
            simp only [resRun, Sem.run_bind]
            rw [g7]
            exact g8
          · exact h.elim
        · exact h.elim
      · cases hc

/-! #### what is handed back -/

/-- It stands for the same when the call's own objects are forgotten. -/
def Kept (μ : List MI) (w : World) (n0 : Nat) (a a' : AV) : Prop := ∀ v, VA ⟨blocks μ, n0, μ⟩ w v a → VA ⟨blocks (μ.take n0), n0, μ.take n0⟩ w v a'

theorem stays_take (μ : List MI) (w : World) (n : Nat) : Stays (blocks μ) w (blocks (μ.take n)) w := ⟨Nat.le_refl _, fun b _ hb => ⟨fun hc => hb (blocks_take hc), rfl⟩⟩

theorem loc_block {μ : List MI} {w : World} {ba lo : List Ob} (hi : Inv μ w ba lo) {k : Nat} {m : MI} {b : Nat} (h1 : Ctx.at ⟨blocks μ, ba.length, μ⟩ (.l k) = some m) (h2 : m.block? = some b) : ¬ blocks (μ.take ba.length) b := fun ⟨i, m', h3, h4⟩ => by
  have h1' : μ[ba.length + k]? = some m := h1
  have e := hi.apart i (ba.length + k) m' m b (take_get h3) h1' h4 h2
  have := get_lt h3
  rw [List.length_take] at this
  omega

theorem view_frz {μ : List MI} {w : World} {ba lo : List Ob} (hi : Inv μ w ba lo) {m g sz len : Nat} {es : List PV} (ho : lo[m]? = some (.buf g sz es)) (hl : len ≤ es.length) {v : Value} (hv : VA ⟨blocks μ, ba.length, μ⟩ w v (.view (.l m) g sz len)) : VP (blocks (μ.take ba.length)) w v (.list sz (es.take len)) := by
  obtain ⟨mi, h1, h2⟩ := hi.at_l ho
  rcases h2.row with ⟨n, rfl, rfl⟩ | ⟨b, xs, t, rfl, h3, h4, h5⟩
  · rcases view_inv hv h1 with ⟨_, rfl, rfl⟩ | ⟨_, _, h6, _⟩
    · simpa using VP.list0 _ none 0 fun _ => rfl
    · cases h6
  · rcases view_inv hv h1 with ⟨h6, _⟩ | ⟨b', cap, h6, rfl, h7, h8⟩
    · cases h6
    · cases h6
      have hr := ((row_at h3 h5).take len).mono (stays_take μ w ba.length)
      have := VP.of_row (cap := cap) hr (loc_block hi h1 rfl) (hi.block_lt ⟨_, _, h1, rfl⟩) (by rw [List.length_take]; omega)
      rwa [List.length_take, Nat.min_eq_left hl] at this

theorem frz0_out {μ : List MI} {w : World} {ba lo : List Ob} (hi : Inv μ w ba lo) {a : AV} {y : PV} (h : frz0 lo a y) {v : Value} (hv : VA ⟨blocks μ, ba.length, μ⟩ w v a) : VP (blocks (μ.take ba.length)) w v y := by
  unfold frz0 at h
  split at h
  · subst h; exact hv.pv.mono (stays_take μ w ba.length)
  · obtain ⟨o, ho, h⟩ := atK_out _ _ _ h
    cases o <;> first | exact (show False from h).elim | skip
    obtain ⟨⟨rfl, rfl, hl⟩, rfl⟩ := h
    exact view_frz hi ho hl hv
  · exact h.elim

theorem frzBA_out {μ : List MI} {w : World} {ba lo : List Ob} (hi : Inv μ w ba lo) {m g len : Nat} {es : List AV} (ho : lo[m]? = some (.bufA g es)) {K : PV → Prop} (h : frzBA lo len es K) : ∃ y, K y ∧ y.scalar = true ∧ ∀ v, VA ⟨blocks μ, ba.length, μ⟩ w v (.view (.l m) g 1 len) → VP (blocks (μ.take ba.length)) w v y := by
  obtain ⟨ys, ⟨hl, hy, hz⟩, hk⟩ := h
  refine ⟨_, hk, rfl, fun v hv => ?_⟩
  obtain ⟨mi, h1, h2⟩ := hi.at_l ho
  obtain ⟨b, xs, t, rfl, h3, h4, h5⟩ := h2.rowA
  rcases view_inv hv h1 with ⟨h6, _⟩ | ⟨b', cap, h6, rfl, h7, h8⟩
  · cases h6
  · cases h6
    have hr : RowOf (blocks (μ.take ba.length)) w 1 (cellsAt w (some ⟨b, 0, none⟩)) ys := by
      have el : ∀ (j : Nat) (e : PV), ys[j]? = some e → ∃ x a, xs[j]? = some x ∧ es[j]? = some a ∧ VA ⟨blocks μ, ba.length, μ⟩ w x a ∧ x.oneCell' = true ∧ frz0 lo a e := fun j e he => by
        have hj : j < ys.length := get_lt he
        have hj2 : j < es.length := by omega
        have hj3 : j < xs.size := by omega
        obtain ⟨q1, q2⟩ := h5 j xs[j] es[j] (Array.getElem?_eq_getElem hj3) (List.getElem?_eq_getElem hj2)
        exact ⟨_, _, Array.getElem?_eq_getElem hj3, List.getElem?_eq_getElem hj2, q1, q2, hz j _ _ (List.getElem?_eq_getElem hj2) he⟩
      refine ⟨fun j => xs.getD j undef, fun j e he => ?_, fun j e he i x hx => ?_, fun j e he => ?_⟩
      · obtain ⟨x, a, q1, q2, q3, q4, q5⟩ := el j e he
        have : xs.getD j undef = x := by simp [q1]
        simp only [this]
        rw [cells_of_oneCell q4]; rfl
      · obtain ⟨x', a, q1, q2, q3, q4, q5⟩ := el j e he
        have : xs.getD j undef = x' := by simp [q1]
        simp only [this] at hx
        rw [cells_of_oneCell q4] at hx
        cases i with
        | zero =>
          simp at hx; subst hx
          refine ⟨q4, ?_⟩
          simp only [cellsAt, add_none, Nat.zero_add, Nat.mul_one, Nat.add_zero]
          rw [cell_of_row w b j xs t (0, 0) h3]; exact q1
        | succ i => simp at hx
      · obtain ⟨x', a, q1, q2, q3, q4, q5⟩ := el j e he
        have : xs.getD j undef = x' := by simp [q1]
        simp only [this]
        exact frz0_out hi q5 q3
    have := VP.of_row (cap := cap) hr (loc_block hi h1 rfl) (hi.block_lt ⟨_, _, h1, rfl⟩) (by omega)
    rwa [hy] at this

theorem frz2K_out {μ : List MI} {w : World} {ba lo : List Ob} (hi : Inv μ w ba lo) {a : AV} {K : PV → Prop} (h : frz2K lo a K) : ∃ y, K y ∧ ∀ v, VA ⟨blocks μ, ba.length, μ⟩ w v a → VP (blocks (μ.take ba.length)) w v y := by
  unfold frz2K at h
  split at h
  · exact ⟨_, h, fun v hv => hv.pv.mono (stays_take μ w ba.length)⟩
  · obtain ⟨o, ho, h⟩ := atK_out _ _ _ h
    cases o <;> first | exact (show False from h).elim | skip
    · obtain ⟨⟨rfl, rfl⟩, ys, hl, rfl, h⟩ := h
      exact ⟨_, h, fun v hv => view_frz hi ho hl hv⟩
    · obtain ⟨⟨rfl, rfl⟩, hgood⟩ := h
      obtain ⟨y, k1, _, k2⟩ := frzBA_out hi ho hgood
      exact ⟨y, k1, k2⟩
  · exact h.elim

theorem frz2sK_out {μ : List MI} {w : World} {ba lo : List Ob} (hi : Inv μ w ba lo) : ∀ (as : List AV) {K : List PV → Prop}, frz2sK lo as K → ∃ ys, K ys ∧ as.length = ys.length ∧ ∀ (j : Nat) (a : AV) (y : PV), as[j]? = some a → ys[j]? = some y → ∀ v, VA ⟨blocks μ, ba.length, μ⟩ w v a → VP (blocks (μ.take ba.length)) w v y
  | [], K, h => ⟨[], h, rfl, fun j a y h => by simp at h⟩
  | a :: r, K, h => by
    obtain ⟨y, h, h1⟩ := frz2K_out hi h
    obtain ⟨ys, h, h2, h3⟩ := frz2sK_out hi r h
    refine ⟨y :: ys, h, by simp [h2], fun j a' y' g1 g2 => ?_⟩
    cases j with
    | zero => simp at g1 g2; subst g1; subst g2; exact h1
    | succ j => exact h3 j a' y' (by simpa using g1) (by simpa using g2)

theorem frzK_out {μ : List MI} {w : World} {ba lo : List Ob} (hi : Inv μ w ba lo) {a : AV} {K : AV → Prop} (h : frzK lo a K) : ∃ a', K a' ∧ Kept μ w ba.length a a' ∧ (a.scalar = true → a'.scalar = true) := by
  have loc : ∀ {k : Nat} {m : MI} {b : Nat}, Ctx.at ⟨blocks μ, ba.length, μ⟩ (.l k) = some m → m.block? = some b → ¬ blocks (μ.take ba.length) b := fun {k m b} h1 h2 ⟨i, m', h3, h4⟩ => by
    have h1' : μ[ba.length + k]? = some m := h1
    have e := hi.apart i (ba.length + k) m' m b (take_get h3) h1' h4 h2
    have := get_lt h3
    rw [List.length_take] at this
    omega
  have low : ∀ {a : AV}, a.lowL 0 = true → Kept μ w ba.length a a := fun {a} hl v hv => by
    have := hv.to_takeN (n := 0) (stays_take μ w ba.length) hl
    simpa using this
  unfold frzK at h
  split at h
  · exact ⟨_, h, low rfl, fun h => h⟩
  · rename_i m g sz len
    obtain ⟨o, ho, h⟩ := atK_out _ _ _ h
    split at h
    · rename_i g' sz' es
      obtain ⟨⟨rfl, rfl⟩, h⟩ := h
      obtain ⟨mi, h1, h2⟩ := hi.at_l ho
      obtain ⟨mi, h1, h2⟩ := hi.at_l ho
      rcases h with ⟨ys, hl, hys, hk⟩ | ⟨ys, sp, ⟨h0, h00⟩, he, hl, hk⟩
      · refine ⟨_, hk, fun v hv => .p _ _ ?_, fun _ => rfl⟩
        subst hys
        rcases h2.row with ⟨n, rfl, rfl⟩ | ⟨b, xs, t, rfl, h3, h4, h5⟩
        · rcases view_inv hv h1 with ⟨_, rfl, rfl⟩ | ⟨_, _, h6, _⟩
          · simpa using VP.list0 _ none 0 fun _ => rfl
          · cases h6
        · rcases view_inv hv h1 with ⟨h6, _⟩ | ⟨b', cap, h6, rfl, h7, h8⟩
          · cases h6
          · cases h6
            have hr := ((row_at h3 h5).take len).mono (stays_take μ w ba.length)
            have := VP.of_row (cap := cap) hr (loc h1 rfl) (hi.block_lt ⟨_, _, h1, rfl⟩) (by rw [List.length_take]; omega)
            rwa [List.length_take, Nat.min_eq_left hl] at this
      · refine ⟨_, hk, fun v hv => .p _ _ ?_, fun _ => rfl⟩
        subst hl
        rcases h2.row with ⟨n, rfl, rfl⟩ | ⟨b, xs, t, rfl, h3, h4, h5⟩
        · simp at h00
        · rcases view_inv hv h1 with ⟨h6, _⟩ | ⟨b', cap, h6, rfl, h7, h8⟩
          · cases h6
          · cases h6
            have hr := (row_at h3 h5).mono (stays_take μ w ba.length)
            rw [he] at hr
            refine VP.of_lent hr (loc h1 rfl) (hi.block_lt ⟨_, _, h1, rfl⟩) ?_
            rw [← he]
            rw [← h8] at h4
            exact Nat.le_of_mul_le_mul_right h4 h0
    · obtain ⟨⟨rfl, rfl⟩, hgood⟩ := h
      obtain ⟨y, k1, k0, k2⟩ := frzBA_out hi ho hgood
      exact ⟨_, k1, fun v hv => .p _ _ (k2 v hv), fun _ => k0⟩
    · exact h.elim
  · rename_i m
    obtain ⟨o, ho, h⟩ := atK_out _ _ _ h
    split at h
    · rename_i cs
      rcases allPK_out _ _ _ h with ⟨ps, rfl, hk⟩ | h
      · refine ⟨_, hk, fun v hv => .p _ _ ?_, fun _ => rfl⟩
        obtain ⟨mi, h1, h2⟩ := hi.at_l ho
        obtain ⟨b, xs, t', rfl, g3, g4, g5, c, g6⟩ := h2.acells
        rw [ref_inv hv h1]
        refine VP.of_pcells ⟨c, fun j e he => ?_⟩ (loc h1 rfl) (hi.block_lt ⟨_, _, h1, rfl⟩)
        obtain ⟨k1, k2, k3⟩ := g6 j (.p e) (by rw [List.getElem?_map, he]; rfl)
        exact ⟨k1, k2, k3.pv.mono (stays_take μ w ba.length)⟩
      · obtain ⟨ys, hk, hyl, hys⟩ := frz2sK_out hi cs h
        refine ⟨_, hk, fun v hv => .p _ _ ?_, fun _ => rfl⟩
        obtain ⟨mi, h1, h2⟩ := hi.at_l ho
        obtain ⟨b, xs, t', rfl, g3, g4, g5, c, g6⟩ := h2.acells
        rw [ref_inv hv h1]
        refine VP.of_pcells ⟨c, fun j e he => ?_⟩ (loc h1 rfl) (hi.block_lt ⟨_, _, h1, rfl⟩)
        have hj : j < cs.length := by rw [hyl]; exact get_lt he
        obtain ⟨k1, k2, k3⟩ := g6 j cs[j] (List.getElem?_eq_getElem hj)
        exact ⟨k1, k2, hys j _ e (List.getElem?_eq_getElem hj) he _ k3⟩
    · exact h.elim
  · exact ⟨_, h, low rfl, fun h => h⟩
  · exact ⟨_, h, low rfl, fun h => h⟩
  · exact ⟨_, h, low rfl, fun h => h⟩
  · exact h.elim

theorem frzsK_out {μ : List MI} {w : World} {ba lo : List Ob} (hi : Inv μ w ba lo) : ∀ (as : List AV) {K : List AV → Prop}, frzsK lo as K → ∃ as', K as' ∧ as.length = as'.length ∧ ∀ (j : Nat) (a a' : AV), as[j]? = some a → as'[j]? = some a' → Kept μ w ba.length a a'
  | [], K, h => ⟨[], h, rfl, fun j a a' e => by simp at e⟩
  | a :: r, K, h => by
    obtain ⟨a1, h, h1, _⟩ := frzK_out hi h
    obtain ⟨as, h, h2, h3⟩ := frzsK_out hi r h
    refine ⟨a1 :: as, h, by simp [h2], fun j x y hx hy => ?_⟩
    cases j with
    | zero => simp at hx hy; subst hx; subst hy; exact h1
    | succ j => exact h3 j x y (by simpa using hx) (by simpa using hy)

theorem frz1K_out {μ : List MI} {w : World} {ba lo : List Ob} (hi : Inv μ w ba lo) {a : AV} {K : AV → Prop} (h : frz1K lo a K) : ∃ a', K a' ∧ Kept μ w ba.length a a' := by
  unfold frz1K at h
  split at h
  · rename_i cs
    obtain ⟨cs', h, h1, h2⟩ := frzsK_out hi cs h
    obtain ⟨a', h3, hk⟩ := mkAggK_out h
    refine ⟨a', hk, fun v hv => ?_⟩
    cases hv with
    | agg xs _ k1 k2 k3 =>
      refine VA.of_agg ⟨by omega, fun j x c hx hc => ?_⟩ k3 h3
      have hj : j < cs.length := by have := get_lt hc; omega
      exact h2 j cs[j] c (List.getElem?_eq_getElem hj) hc x (k2 j x cs[j] hx (List.getElem?_eq_getElem hj))
  · obtain ⟨a', h1, h2, _⟩ := frzK_out hi h
    exact ⟨a', h1, h2⟩

theorem frz1sK_out {μ : List MI} {w : World} {ba lo : List Ob} (hi : Inv μ w ba lo) : ∀ (as : List AV) {K : List AV → Prop}, frz1sK lo as K → ∃ as', K as' ∧ as.length = as'.length ∧ ∀ (j : Nat) (a a' : AV), as[j]? = some a → as'[j]? = some a' → Kept μ w ba.length a a'
  | [], K, h => ⟨[], h, rfl, fun j a a' e => by simp at e⟩
  | a :: r, K, h => by
    obtain ⟨a1, h, h1⟩ := frz1K_out hi h
    obtain ⟨as, h, h2, h3⟩ := frz1sK_out hi r h
    refine ⟨a1 :: as, h, by simp [h2], fun j x y hx hy => ?_⟩
    cases j with
    | zero => simp at hx hy; subst hx; subst hy; exact h1
    | succ j => exact h3 j x y (by simpa using hx) (by simpa using hy)

theorem ret_out {fn : Func} {irs : List IRes} (hc : compR P fn.results.toList = some irs) {μ : List MI} {w : World} {a : Act} {fr : FR} {ba lo : List Ob} {K : AV → List Ob → Prop} (h : retK fr ba lo irs K) (hr : Rel N B T μ w a fr ba lo) :
    ∃ v r, (results fn a.tmps).run P w = .ok v w ∧ K r ba ∧ Inv (μ.take ba.length) w ba [] ∧ VA ⟨blocks (μ.take ba.length), ba.length, μ.take ba.length⟩ w v r := by
  obtain ⟨as, vs, h1, h2, h3, h4⟩ := ressK_out _ _ hc h hr
  obtain ⟨as', h5, h6, h7⟩ := frz1sK_out hr.inv as h1
  have hinv : Inv (μ.take ba.length) w ba [] := by simpa using hr.inv.trunc (n := 0) (Nat.zero_le _) rfl
  have hrun : (results fn a.tmps).run P w = .ok (if h : vs.toArray.size = 1 then vs.toArray[0] else .tuple vs.toArray) w := by
    rw [results_eq]
    have : fn.results.mapM (resRun a.tmps) = (do let l ← fn.results.toList.mapM (resRun a.tmps); pure l.toArray) := by
      rw [Array.mapM_eq_mapM_toList]
      rfl
    rw [this]
    simp only [Sem.run_bind, h2, Result.andThen, Sem.run_pure]
  have vals : ∀ (j : Nat) (x : Value) (c : AV), vs[j]? = some x → as'[j]? = some c → VA ⟨blocks (μ.take ba.length), ba.length, μ.take ba.length⟩ w x c := fun j x c hx hcj => by
    have hj : j < as.length := by have := get_lt hcj; omega
    exact h7 j as[j] c (List.getElem?_eq_getElem hj) hcj x (h4 j x as[j] hx (List.getElem?_eq_getElem hj))
  split at h5
  · rename_i r
    have hl : vs.length = 1 := by rw [h3, h6]; rfl
    obtain ⟨v, rfl⟩ := List.length_eq_one_iff.1 hl
    exact ⟨v, r, hrun, h5, hinv, vals 0 v r rfl rfl⟩
  · rename_i h8
    obtain ⟨r, h9, hk⟩ := mkTupK_out h5
    have hl : vs.toArray.size ≠ 1 := by
      intro e
      have e' : as'.length = 1 := by rw [← h6, ← h3]; simpa using e
      obtain ⟨x, rfl⟩ := List.length_eq_one_iff.1 e'
      exact h8 x rfl
    rw [dif_neg hl] at hrun
    exact ⟨_, r, hrun, hk, hinv, VA.of_tup ⟨by simp; omega, fun j x c hx hcj => vals j x c (by simpa using hx) hcj⟩ h9⟩

/-- THE READING OF A FUNCTION IS RIGHT. -/
theorem sound {own : List Nat} {f : Nat} {ir : IF} {args : List AV} {H : List Ob} {Q : AV → List Ob → Prop} (hc : compF P own f = some ir.bare) (h : fnV P ir args H Q) : callA P f args H Q := by
  intro μ w xs hi hx
  unfold compF at hc
  split at hc
  · cases hc
  · rename_i fn hfn
    split at hc
    · cases hc
    · rename_i c hbody
      split at hc
      · rename_i ic rs hic hrs
        split at hc
        · rename_i hcond
          obtain ⟨hpar, _, hm⟩ := hcond
          have hc := Option.some.inj hc
          have e1 : ic = ir.body.bare := congrArg IF.body hc
          have e2 : rs = ir.res := congrArg IF.res hc
          have e3 : fn.params.size + fn.nfree = ir.params := congrArg IF.params hc
          subst e1
          subst e2
          unfold fnV at h
          cases hb : Nat.beq args.length ir.params with
          | false => rw [hb] at h; exact h.elim
          | true =>
            rw [hb] at h
            have hlen : args.length = ir.params := Nat.eq_of_beq_eq_true hb
            have h : W P ir.body (frameOf 0 args) H [] (endQ ir Q) := h
            have hsz : xs.size = args.length := hx.1
            have hrel : Rel fn.ntmps w.heap.size [] μ w { tmps := xs ++ Array.replicate (fn.ntmps - xs.size) undef, defers := [] } (frameOf 0 args) H [] := by
              refine ⟨hi, by simp; omega, Nat.le_refl _, .nil, fun t => ?_⟩
              rw [frameOf_get, if_pos (Nat.zero_le _), Nat.sub_zero]
              simp only [Array.getD_eq_getD_getElem?]
              rcases Nat.lt_or_ge t args.length with ht | ht
              · rw [Array.getElem?_append_left (by omega), Array.getElem?_eq_getElem (by omega), List.getElem?_eq_getElem ht]
                exact hx.2 t _ _ (Array.getElem?_eq_getElem (by omega)) (List.getElem?_eq_getElem ht)
              · rw [List.getElem?_eq_none (by omega)]
                exact .p _ _ (.undef _)
            refine callsIn_wide.1 (callsIn_of_wp_marks (F := FW none) (n := 0) hfn hbody trivial (wpIn_mono (W_sound hm 0 ir.body c hic h hrel) fun e a' w' hp => ?_))
            obtain ⟨μ', fr', ba', lo', g1, g2, g3, g4⟩ := hp
            have fin : retK fr' ba' lo' ir.res Q → LeavesInM (FW none) 0 P fn a'.tmps (fun e w' => ∃ (v : Value) (r : AV) (H' : List Ob) (μ' : List MI), e = .returned v ∧ Q r H' ∧ Inv μ' w' H' [] ∧ VA ⟨blocks μ', H'.length, μ'⟩ w' v r ∧ Le μ w μ' w') a'.defers .returning w' := fun g1 => by
              obtain ⟨Ds, d1, d2, d3⟩ := g2.defers
              rw [d1, List.append_nil]
              refine leaves_marks Ds d2 (fun D hD => (d3 D hD).2.2) ?_
              obtain ⟨q1, q2⟩ := Rel.shut (a := a') Ds d2 d3 ⟨g2.inv, g2.size, g2.base, .nil, g2.vals⟩ g3
              obtain ⟨v, r, k1, k2, k3, k4⟩ := ret_out hrs g1 q1
              refine ⟨v, k1, v, r, ba', _, rfl, k2, k3, k4, ?_⟩
              have hl : ba'.length = μ.length := by rw [g4, hi.len]; rfl
              rw [hl]
              exact q2.trunc
            cases e with
            | normal => exact fin g1
            | ret => exact fin g1
            | exit id => exact g1.elim
            | goto l => exact g1.elim
            | panic ch => exact g1.elim
            | outgrown => exact g1.elim
        · cases hc
      · cases hc

end
end Go.Proofs.YtgdimfogijfmiaaDoor.AD

namespace Go.Proofs.YtgdimfogijfmiaaDoor.AD
set_option linter.unusedVariables false
section
variable {P : Program}

theorem CallVC.pureF {f : Nat} {args : List AV} {ba lo : List Ob} {K : AV → List Ob → List Ob → Prop} {e : PV} (h : pureF P f args (.p e)) (ha : AV.closes ba.length args = args) (k : K (.p e) ba lo) : CallVC P f args ba lo K :=
  .pure (by rw [ha]; exact h _) k

theorem CallD.pureF {f : Nat} {args : List AV} {ba lo : List Ob} {K : AV → List Ob → List Ob → Prop} {e : PV} (h : pureF P f args (.p e)) (ha : AV.closes ba.length args = args) (k : K (.p e) ba lo) : CallD P f args ba lo K :=
  ⟨e, fun X => by rw [ha]; exact h _, k⟩

theorem pureF_of {own : List Nat} {f : Nat} {ir : IF} {args : List AV} {r : AV} (hc : compF P own f = some ir.bare) (h : ∀ H, fnV P ir args H fun r' H' => r' = r ∧ H' = H) : pureF P f args r :=
  fun H => sound hc (h H)

/-! ### one value for another -/

/-- Whatever stands for the one stands for the other. -/
def PV.le (a b : PV) : Prop := ∀ (M : Nat → Prop) (w : World) (v : Value), VP M w v a → VP M w v b

theorem PV.le.refl (a : PV) : a.le a := fun _ _ _ h => h
theorem PV.le.trans {a b c : PV} (h : a.le b) (k : b.le c) : a.le c := fun M w v hv => k M w v (h M w v hv)

/-- Rows of such. -/
inductive PV.les : List PV → List PV → Prop
  | nil : PV.les [] []
  | cons (a b : PV) (as bs : List PV) : a.le b → PV.les as bs → PV.les (a :: as) (b :: bs)

theorem PV.les.refl : ∀ (l : List PV), PV.les l l
  | [] => .nil
  | a :: r => .cons a a r r (.refl a) (.refl r)
theorem PV.les.length {as bs : List PV} (h : PV.les as bs) : as.length = bs.length := by
  induction h with
  | nil => rfl
  | cons _ _ _ _ _ _ ih => simp [ih]
theorem PV.les.get {as bs : List PV} (h : PV.les as bs) : ∀ (j : Nat) (b : PV), bs[j]? = some b → ∃ a, as[j]? = some a ∧ a.le b := by
  induction h with
  | nil => intro j b e; simp at e
  | cons a b' as bs h _ ih =>
    intro j b e
    cases j with
    | zero => simp at e; subst e; exact ⟨a, rfl, h⟩
    | succ j => exact ih j b (by simpa using e)

theorem PV.le.agg {as bs : List PV} (h : PV.les as bs) : PV.le (.agg as) (.agg bs) := by
  intro M w v hv
  cases hv with
  | agg xs _ h1 h2 h3 =>
    refine .agg xs bs (by rw [h1, h.length]) (fun j x c hx hc => ?_) h3
    obtain ⟨a, ha, hl⟩ := h.get j c hc
    exact hl M w x (h2 j x a hx ha)
theorem PV.le.tup {as bs : List PV} (h : PV.les as bs) : PV.le (.tup as) (.tup bs) := by
  intro M w v hv
  cases hv with
  | tup xs _ h1 h2 =>
    refine .tup xs bs (by rw [h1, h.length]) (fun j x c hx hc => ?_)
    obtain ⟨a, ha, hl⟩ := h.get j c hc
    exact hl M w x (h2 j x a hx ha)
theorem PV.le.list {sz : Nat} {as bs : List PV} (h : PV.les as bs) : PV.le (.list sz as) (.list sz bs) := by
  intro M w v hv
  cases hv with
  | list0 sz A cap h0 => cases h; exact .list0 sz A cap h0
  | list b off cap _ _ c h1 h2 h3 h4 h5 h6 =>
    rw [h.length]
    rw [h.length] at h3
    refine .list b off cap sz bs c h1 h2 h3 (fun j e he => ?_) (fun j e he => ?_) (fun j e he => ?_)
    · obtain ⟨a, ha, hl⟩ := h.get j e he; exact h4 j a ha
    · obtain ⟨a, ha, hl⟩ := h.get j e he; exact h5 j a ha
    · obtain ⟨a, ha, hl⟩ := h.get j e he; exact hl M w _ (h6 j a ha)
theorem PV.le.lent {sz : Nat} {as sp bs : List PV} (h : PV.les as bs) : PV.le (.lent sz as sp) (.list sz bs) := by
  intro M w v hv
  cases hv with
  | lent b off cap _ _ _ c h1 h2 h3 h4 h5 h6 =>
    have up : ∀ {j : Nat} {a : PV}, as[j]? = some a → (as ++ sp)[j]? = some a := fun {j a} ha => by rw [List.getElem?_append_left (get_lt ha)]; exact ha
    rw [List.length_append, h.length] at h3
    rw [h.length]
    refine .list b off cap sz bs c h1 h2 (by omega) (fun j e he => ?_) (fun j e he => ?_) (fun j e he => ?_)
    · obtain ⟨a, ha, hl⟩ := h.get j e he; exact h4 j a (up ha)
    · obtain ⟨a, ha, hl⟩ := h.get j e he; exact h5 j a (up ha)
    · obtain ⟨a, ha, hl⟩ := h.get j e he; exact hl M w _ (h6 j a (up ha))
theorem PV.le.zer (sz : Nat) : PV.le .zer (.list sz []) := by
  intro M w v h
  cases h with
  | zer A cap => exact .list0 sz (some A) cap fun e => by cases e
theorem PV.le.emp (sz : Nat) : PV.le .emp (.list sz []) := by
  intro M w v h
  cases h with
  | emp A => exact .list0 sz A 0 fun e => rfl
theorem PV.le.nilsE : PV.le .nils .emp := by
  intro M w v h
  cases h with
  | nils => exact .emp none
theorem PV.le.nils (sz : Nat) : PV.le .nils (.list sz []) := by
  intro M w v hv
  cases hv with
  | nils => exact .list0 sz none 0 fun _ => rfl

inductive AVles : List AV → List AV → Prop
  | nil : AVles [] []
  | same (a : AV) (as bs : List AV) : AVles as bs → AVles (a :: as) (a :: bs)
  | p (a b : PV) (as bs : List AV) : a.le b → AVles as bs → AVles (.p a :: as) (.p b :: bs)

theorem AVles.out {as bs : List AV} (h : AVles as bs) : as.length = bs.length ∧ ∀ (j : Nat) (b : AV), bs[j]? = some b → ∃ a, as[j]? = some a ∧ ∀ Γ w v, VA Γ w v a → VA Γ w v b := by
  induction h with
  | nil => exact ⟨rfl, fun j b e => by simp at e⟩
  | same a as bs _ ih =>
    refine ⟨by simp [ih.1], fun j b e => ?_⟩
    cases j with
    | zero => simp at e; subst e; exact ⟨a, rfl, fun _ _ _ h => h⟩
    | succ j => exact ih.2 j b (by simpa using e)
  | p a b' as bs hl _ ih =>
    refine ⟨by simp [ih.1], fun j b e => ?_⟩
    cases j with
    | zero => simp at e; subst e; exact ⟨_, rfl, fun _ _ _ h => .p _ _ (hl _ _ _ h.pv)⟩
    | succ j => exact ih.2 j b (by simpa using e)

/-- What is shown for plainer arguments holds for richer ones. -/
theorem callA.args {f : Nat} {as bs : List AV} {H : List Ob} {Q : AV → List Ob → Prop} (h : callA P f bs H Q) (hl : AVles as bs) : callA P f as H Q := by
  obtain ⟨h1, h2⟩ := hl.out
  intro μ w xs hi hx
  refine h μ w xs hi ⟨by rw [hx.1, h1], fun j x b hj hb => ?_⟩
  obtain ⟨a, ha, hv⟩ := h2 j b hb
  exact hv _ _ _ (hx.2 j x a hj ha)
theorem pureF.args {f : Nat} {as bs : List AV} {r : AV} (h : pureF P f bs r) (hl : AVles as bs) : pureF P f as r := fun H => (h H).args hl

theorem pureF.to {f : Nat} {as : List AV} {r r' : PV} (h : pureF P f as (.p r)) (hl : r.le r') : pureF P f as (.p r') := fun H μ w xs hi hx => by
  refine Calls.mono' (h H μ w xs hi hx) ?_
  rintro e w' ⟨v, r1, H', μ', g1, ⟨rfl, rfl⟩, g3, g4, g5⟩
  exact ⟨v, _, H', μ', g1, ⟨rfl, rfl⟩, g3, .p _ _ (hl _ _ _ g4.pv), g5⟩


theorem drop_cons {α : Type} {xs : List α} {i : Nat} {r : List α} {a : α} (h : xs.drop i = a :: r) : xs[i]? = some a ∧ xs.drop (i + 1) = r ∧ i < xs.length := by
  have hg : xs[i]? = some a := by
    have : (xs.drop i)[0]? = some a := by rw [h]; rfl
    rwa [List.getElem?_drop] at this
  refine ⟨hg, ?_, get_lt hg⟩
  have : xs.drop (i + 1) = (xs.drop i).drop 1 := by rw [List.drop_drop]
  rw [this, h]; rfl
theorem drop_nil {α : Type} {xs : List α} {i : Nat} (h : xs.drop i = []) : xs.length ≤ i := List.drop_eq_nil_iff.1 h

theorem ba_toList (s : ByteArray) : s.toList = s.data.toList := by
  have loop : ∀ (n i : Nat) (r : List UInt8), s.size - i = n → ByteArray.toList.loop s i r = r.reverse ++ s.data.toList.drop i := by
    intro n
    induction n with
    | zero =>
      intro i r h
      unfold ByteArray.toList.loop
      rw [if_neg (by omega), List.drop_eq_nil_iff.2 (by simp; show s.size ≤ i; omega)]
      simp
    | succ n ih =>
      intro i r h
      unfold ByteArray.toList.loop
      have hi : i < s.size := by omega
      rw [if_pos hi, ih (i + 1) _ (by omega)]
      have hi' : i < s.data.toList.length := by simp; exact hi
      rw [List.drop_eq_getElem_cons hi']
      simp [ByteArray.get!, getElem!_pos, hi]
  unfold ByteArray.toList
  rw [loop _ 0 [] rfl]
  simp
theorem ba_ext {a b : ByteArray} : a.toList = b.toList ↔ a.data.toList = b.data.toList := by rw [ba_toList, ba_toList]
theorem ba_size (s : ByteArray) : s.size = s.data.toList.length := by rw [Array.length_toList]; rfl

end
end Go.Proofs.YtgdimfogijfmiaaDoor.AD

namespace Go.Proofs.YtgdimfogijfmiaaDoor.AD
set_option linter.unusedVariables false
section
variable {P : Program}

/-- Values without places. -/
inductive Flat : PV → Prop
  | undef : Flat .undef
  | bool (b : Bool) : Flat (.bool b)
  | int (k : IntKind) (n : Int) : Flat (.int k n)
  | str (s : ByteArray) : Flat (.str s)
  | nils : Flat .nils
  | nilp : Flat .nilp
  | fn (f : Fn) : Flat (.fn f)
  | nilf : Flat .nilf
  | nilm : Flat .nilm
  | nili : Flat .nili
  | zer : Flat .zer
  | emp : Flat .emp
  | agg (cs : List PV) : (∀ c, c ∈ cs → Flat c) → Flat (.agg cs)
  | tup (cs : List PV) : (∀ c, c ∈ cs → Flat c) → Flat (.tup cs)

theorem VP.anywhere {M M' : Nat → Prop} {w w' : World} {v : Value} {e : PV} (h : VP M w v e) : Flat e → VP M' w' v e := by
  induction h with
  | undef v => intro _; exact .undef v
  | bool b => intro _; exact .bool b
  | int k n => intro _; exact .int k n
  | str s => intro _; exact .str s
  | agg xs cs h1 _ h3 ih =>
    intro hf
    cases hf with
    | agg _ hc => exact .agg xs cs h1 (fun j x c hx he => ih j x c hx he (hc c (List.mem_of_getElem? he))) h3
  | tup xs cs h1 _ ih =>
    intro hf
    cases hf with
    | tup _ hc => exact .tup xs cs h1 (fun j x c hx he => ih j x c hx he (hc c (List.mem_of_getElem? he)))
  | nils => intro _; exact .nils
  | nilp => intro _; exact .nilp
  | fn f => intro _; exact .fn f
  | nilf => intro _; exact .nilf
  | nilm => intro _; exact .nilm
  | nili => intro _; exact .nili
  | zer A cap => intro _; exact .zer A cap
  | emp A => intro _; exact .emp A
  | list0 => intro hf; cases hf
  | list => intro hf; cases hf
  | lent => intro hf; cases hf
  | ptr => intro hf; cases hf
  | iface => intro hf; cases hf

/-- Where an object stands. -/
def findO (ba lo : List Ob) : Rf → Option Ob
  | .l k => lo[k]?
  | .b id => ba[id]?

/-- A value, and what it is while nobody writes. -/
inductive Lend (ba lo : List Ob) : AV → PV → Prop
  | p (v : PV) : Lend ba lo (.p v) v
  | view (r : Rf) (g sz len : Nat) (es : List PV) : findO ba lo r = some (.buf g sz es) → len ≤ es.length → Lend ba lo (.view r g sz len) (.list sz (es.take len))
  | refL (k : Nat) (cs : List AV) (ps : List PV) : lo[k]? = some (.cells cs) → cs.length = ps.length → (∀ (j : Nat) (c : AV) (p : PV), cs[j]? = some c → ps[j]? = some p → Lend ba lo c p) → Lend ba lo (.ref (.l k) 0) (.ptr ps)
  | refB (id : Nat) (ps : List PV) : ba[id]? = some (.cells (ps.map .p)) → Lend ba lo (.ref (.b id) 0) (.ptr ps)
  | agg (cs : List AV) (ps : List PV) : cs.length = ps.length → (∀ (j : Nat) (c : AV) (p : PV), cs[j]? = some c → ps[j]? = some p → Lend ba lo c p) → Lend ba lo (.agg cs) (.agg ps)

theorem Lend.close {ba lo : List Ob} {a : AV} {p : PV} (h : Lend ba lo a p) : ∀ (μ : List MI) (w : World), Inv μ w (flat ba lo) [] → ∀ v, VA ⟨blocks μ, (flat ba lo).length, μ⟩ w v (a.close ba.length) → VP (fun _ => False) w v p := by
  have fresh : ∀ (μ : List MI) (w : World), Stays (blocks μ) w (fun _ => False) w := fun μ w => ⟨Nat.le_refl _, fun _ _ _ => ⟨fun h => h, rfl⟩⟩
  induction h with
  | p v => intro μ w hi x hx; exact hx.pv.mono (fresh μ w)
  | view r g sz len es hf hl =>
    intro μ w hi x hx
    have hfl : ∃ id, r.close ba.length = .b id ∧ (flat ba lo)[id]? = some (.buf g sz es) := by
      cases r with
      | l k => exact ⟨ba.length + k, rfl, by rw [flat, List.getElem?_append_right (by omega), Nat.add_sub_cancel_left, List.getElem?_map, show lo[k]? = _ from hf]; rfl⟩
      | b id => exact ⟨id, rfl, by rw [flat, List.getElem?_append_left (get_lt hf)]; exact hf⟩
    obtain ⟨id, h1, h2⟩ := hfl
    rw [AV.close, h1] at hx
    obtain ⟨m, hm, hok⟩ := hi.bases id _ h2
    have hlt := get_lt h2
    have hat : Ctx.at ⟨blocks μ, (flat ba lo).length, μ⟩ (.b id) = some m := by rw [Ctx.at, if_pos hlt]; exact hm
    cases hx with
    | view0 _ _ _ n ha =>
      rw [List.take_zero]; exact .list0 _ _ _ fun _ => rfl
    | view _ _ _ n b _ cap ha hlc hcs =>
      rw [hat] at ha
      cases ha
      cases hok with
      | buf _ _ _ _ xs t _ c k1 k2 k3 k4 =>
        have hb : b < w.heap.size := (Array.getElem?_eq_some_iff.1 k1).1
        rcases Nat.eq_zero_or_pos len with h0 | h0
        · subst h0; rw [List.take_zero]; exact .list0 _ _ _ fun e => by cases e
        · have ht : (es.take len).length = len := by rw [List.length_take]; omega
          have up : ∀ {j : Nat} {e : PV}, (es.take len)[j]? = some e → es[j]? = some e := fun {j e} he => by
            rw [List.getElem?_take] at he
            split at he
            · exact he
            · cases he
          have hcell : ∀ (i : Nat) (y : Value), xs[i]? = some y → w.cell? ⟨b, 0 + i, none⟩ = some y := fun i y hy => by
            unfold World.cell?
            rw [k1]
            simp [hy]
          have hv := VP.list (M := fun _ => False) (w := w) b 0 cap sz (es.take len) c (fun h => h) hb (by rw [ht]; exact hlc)
            (fun j e he => (k4 j e (up he)).1)
            (fun j e he i y hy => ⟨((k4 j e (up he)).2.1 i y hy).1, hcell _ _ ((k4 j e (up he)).2.1 i y hy).2⟩)
            (fun j e he => (k4 j e (up he)).2.2.mono ⟨Nat.le_refl _, fun _ _ _ => ⟨fun h => h, rfl⟩⟩)
          rw [ht] at hv
          exact hv
    | viewOld _ _ _ _ _ b g' n ha hg h0 =>
      rw [hat] at ha
      cases ha
      cases hok <;> exact absurd hg (Nat.lt_irrefl _)
    | viewGone _ _ _ _ _ ha h0 =>
      rw [hat] at ha
      cases ha
      cases hok
  | refL k cs ps hf hl hc ih =>
    intro μ w hi x hx
    have h2 : (flat ba lo)[ba.length + k]? = some (.cells (AV.closes ba.length cs)) := by
      rw [flat, List.getElem?_append_right (by omega), Nat.add_sub_cancel_left, List.getElem?_map, hf]; rfl
    rw [AV.close, Rf.close] at hx
    obtain ⟨m, hm, hok⟩ := hi.bases _ _ h2
    have hlt := get_lt h2
    have hat : Ctx.at ⟨blocks μ, (flat ba lo).length, μ⟩ (.b (ba.length + k)) = some m := by rw [Ctx.at, if_pos hlt]; exact hm
    cases hx with
    | ref _ _ b ha =>
      rw [hat] at ha
      cases ha
      cases hok with
      | cells _ xs t _ k1 k2 k3 =>
        have hb : b < w.heap.size := (Array.getElem?_eq_some_iff.1 k1).1
        have hlen : xs.size = ps.length := by rw [k2, closes_length, hl]
        have hμ : μ.take (flat ba lo).length = μ := by
          have := hi.len
          simp at this
          exact List.take_of_length_le (by omega)
        refine .ptr b 0 ps (fun j => xs[j]?.getD default) (fun h => h) hb (fun j e he => ?_) (fun j e he => ?_)
        · have hj : j < xs.size := by rw [hlen]; exact get_lt he
          have hj2 : j < cs.length := by rw [hl]; exact get_lt he
          have hx : xs[j]? = some xs[j] := Array.getElem?_eq_getElem hj
          rw [hx]
          refine ⟨(k3 j _ ((cs[j]).close ba.length) hx (by rw [closes_get, List.getElem?_eq_getElem hj2]; rfl)).2, ?_⟩
          unfold World.cell?
          rw [k1]
          simp [hx]
        · have hj : j < xs.size := by rw [hlen]; exact get_lt he
          have hj2 : j < cs.length := by rw [hl]; exact get_lt he
          have hx : xs[j]? = some xs[j] := Array.getElem?_eq_getElem hj
          rw [hx]
          have hva := (k3 j _ ((cs[j]).close ba.length) hx (by rw [closes_get, List.getElem?_eq_getElem hj2]; rfl)).1
          rw [hμ] at hva
          exact ih j _ e (List.getElem?_eq_getElem hj2) he μ w hi _ hva
  | refB id ps hf =>
    intro μ w hi x hx
    have h2 : (flat ba lo)[id]? = some (.cells (ps.map .p)) := by
      rw [flat, List.getElem?_append_left (get_lt hf)]; exact hf
    rw [AV.close, Rf.close] at hx
    obtain ⟨m, hm, hok⟩ := hi.bases _ _ h2
    have hlt := get_lt h2
    have hat : Ctx.at ⟨blocks μ, (flat ba lo).length, μ⟩ (.b id) = some m := by rw [Ctx.at, if_pos hlt]; exact hm
    cases hx with
    | ref _ _ b ha =>
      rw [hat] at ha
      cases ha
      cases hok with
      | cells _ xs t _ k1 k2 k3 =>
        have hb : b < w.heap.size := (Array.getElem?_eq_some_iff.1 k1).1
        have hlen : xs.size = ps.length := by rw [k2, List.length_map]
        refine .ptr b 0 ps (fun j => xs[j]?.getD default) (fun h => h) hb (fun j e he => ?_) (fun j e he => ?_)
        · have hj : j < xs.size := by rw [hlen]; exact get_lt he
          have hx : xs[j]? = some xs[j] := Array.getElem?_eq_getElem hj
          rw [hx]
          refine ⟨(k3 j _ (.p e) hx (by rw [List.getElem?_map, he]; rfl)).2, ?_⟩
          unfold World.cell?
          rw [k1]
          simp [hx]
        · have hj : j < xs.size := by rw [hlen]; exact get_lt he
          have hx : xs[j]? = some xs[j] := Array.getElem?_eq_getElem hj
          rw [hx]
          exact (k3 j _ (.p e) hx (by rw [List.getElem?_map, he]; rfl)).1.pv.mono ⟨Nat.le_refl _, fun _ _ _ => ⟨fun h => h, rfl⟩⟩
  | agg cs ps hl hc ih =>
    intro μ w hi x hx
    rw [AV.close] at hx
    cases hx with
    | agg xs _ k1 k2 k3 =>
      rw [closes_length] at k1
      refine .agg xs ps (by rw [k1, hl]) (fun j y p hy hp => ?_) k3
      have hj2 : j < cs.length := by rw [hl]; exact get_lt hp
      exact ih j _ p (List.getElem?_eq_getElem hj2) hp μ w hi y (k2 j y _ hy (by rw [closes_get, List.getElem?_eq_getElem hj2]; rfl))

theorem inv_nil (W : World) : Inv [] W [] [] := ⟨rfl, fun i j m m' b h => by simp at h, fun i o h => by simp at h, fun k o h => by simp at h⟩

theorem Inv.kept {μ : List MI} {w w' : World} {H : List Ob} (h : Inv μ w H []) (hs : w.heap.size ≤ w'.heap.size) (hb : ∀ b, b < w.heap.size → w'.heap[b]? = w.heap[b]?) : Inv μ w' H [] := by
  have st : ∀ M : Nat → Prop, Stays M w M w' := fun M => ⟨hs, fun b h1 h2 => ⟨h2, hb b h1⟩⟩
  refine ⟨h.len, h.apart, fun i o ho => ?_, fun k o ho => by simp at ho⟩
  obtain ⟨m, hm, hok⟩ := h.bases i o ho
  refine ⟨m, hm, ?_⟩
  cases hok with
  | cells b xs t cs k1 k2 k3 => exact .cells b xs t cs ((hb b (Array.getElem?_eq_some_iff.1 k1).1).trans k1) k2 fun j x c hx hc => ⟨(k3 j x c hx hc).1.mono (st _) (.refl _), (k3 j x c hx hc).2⟩
  | buf0 g sz n => exact .buf0 g sz n
  | buf b g n sz xs t es c k1 k2 k3 k4 => exact .buf b g n sz xs t es c ((hb b (Array.getElem?_eq_some_iff.1 k1).1).trans k1) k2 k3 fun j e he => ⟨(k4 j e he).1, (k4 j e he).2.1, (k4 j e he).2.2.mono (st _)⟩
  | map b clock xs es k1 k2 k3 k4 k5 => exact .map b clock xs es ((hb b (Array.getElem?_eq_some_iff.1 k1).1).trans k1) k2 (fun j x e hx he => ⟨(k3 j x e hx he).1.mono (st _), (k3 j x e hx he).2.mono (st _)⟩) k4 k5
  | mapA b clock xs ks vs k1 k2 k3 k4 k5 => exact .mapA b clock xs ks vs ((hb b (Array.getElem?_eq_some_iff.1 k1).1).trans k1) k2 k3 (fun j x e hx he => (k4 j x e hx he).mono (st _)) fun j x e hx he => (k5 j x e hx he).mono (st _) (.refl _)
  | bufA b g n xs t es k1 k2 k3 k4 => exact .bufA b g n xs t es ((hb b (Array.getElem?_eq_some_iff.1 k1).1).trans k1) k2 k3 fun j x c hx hc => ⟨(k4 j x c hx hc).1.mono (st _) (.refl _), (k4 j x c hx hc).2⟩
  | loop l r ks cs st' p k1 k2 k0 k3 => exact .loop l r ks cs st' p ((hb l (Array.getElem?_eq_some_iff.1 k1).1).trans k1) k2 k0 fun j t c hj hc => (k3 j t c hj hc).mono (st _) (.refl _)
  | gone => exact .gone

/-- The rows of arguments. -/
inductive Lends (ba lo : List Ob) : List AV → List PV → Prop
  | nil : Lends ba lo [] []
  | cons (a : AV) (p : PV) (as : List AV) (ps : List PV) : Lend ba lo a p → Lends ba lo as ps → Lends ba lo (a :: as) (p :: ps)
theorem Lends.out {ba lo : List Ob} {as : List AV} {ps : List PV} (h : Lends ba lo as ps) : as.length = ps.length ∧ ∀ (j : Nat) (p : PV), ps[j]? = some p → ∃ a, as[j]? = some a ∧ Lend ba lo a p := by
  induction h with
  | nil => exact ⟨rfl, fun j p h => by simp at h⟩
  | cons a p as ps h _ ih =>
    refine ⟨by simp [ih.1], fun j q hq => ?_⟩
    cases j with
    | zero => simp at hq; subst hq; exact ⟨a, rfl, h⟩
    | succ j => exact ih.2 j q (by simpa using hq)

theorem callA_lend {f : Nat} {ba lo : List Ob} {as : List AV} {ps : List PV} {r : PV} (h : pureF P f (ps.map .p) (.p r)) (hr : Flat r) (hl : Lends ba lo as ps) :
    callA P f (AV.closes ba.length as) (flat ba lo) (fun r' H' => r' = .p r ∧ H' = flat ba lo) := by
  obtain ⟨h1, h2⟩ := hl.out
  intro μ w xs hi hx
  have hc := h [] [] w xs (inv_nil w) ⟨by rw [hx.1, closes_length, h1, List.length_map], fun j x a hj ha => by
    rw [List.getElem?_map] at ha
    obtain ⟨p, hp, rfl⟩ := Option.map_eq_some_iff.1 ha
    obtain ⟨a, ha, hla⟩ := h2 j p hp
    refine .p _ _ ((hla.close μ w hi x (hx.2 j x _ hj (by rw [closes_get, ha]; rfl))).mono ⟨Nat.le_refl _, fun b _ _ => ⟨fun ⟨i, m, h, _⟩ => by simp at h, rfl⟩⟩)⟩
  refine Calls.mono' hc ?_
  rintro e w' ⟨v, r', H', μ', rfl, ⟨rfl, rfl⟩, g3, g4, g5⟩
  have hkeep : ∀ b, b < w.heap.size → w'.heap[b]? = w.heap[b]? := fun b hb => (g5.stays.2 b hb fun ⟨i, m, h, _⟩ => by simp at h).2
  exact ⟨v, _, _, μ, rfl, ⟨rfl, rfl⟩, hi.kept g5.stays.1 hkeep, .p _ _ (g4.pv.anywhere hr), g5.os, g5.tape, g5.output, .refl μ, g5.stays.1, fun b hb hm => ⟨hm, hkeep b hb⟩⟩

theorem CallVC.lend {f : Nat} {args : List AV} {ps : List PV} {ba lo : List Ob} {K : AV → List Ob → List Ob → Prop} {r : PV} (h : AD.pureF P f (ps.map .p) (.p r)) (hr : Flat r) (hl : Lends ba lo args ps) (k : K (.p r) ba lo) : CallVC P f args ba lo K :=
  .pure (callA_lend h hr hl) k
end
end Go.Proofs.YtgdimfogijfmiaaDoor.AD

namespace Go.Proofs.YtgdimfogijfmiaaDoor.AD
set_option linter.unusedVariables false
section
variable {P : Program}

/-! ### a callee read in place -/

def resI (fr : FR) (ba lo : List Ob) (rs : List IRes) (K : AV → List Ob → List Ob → Prop) : Prop :=
  ressK fr ba lo rs fun as => match as with
    | [a] => K a ba lo
    | as => mkTupK as fun a => K a ba lo
def endI (f : IF) (K : AV → List Ob → List Ob → Prop) : Exit → FR → List Ob → List Ob → Prop
  | .ret, fr, ba, lo => resI fr ba lo f.res K
  | .normal, fr, ba, lo => resI fr ba lo f.res K
  | _, _, _, _ => False

theorem resI_out {N B : Nat} {T : List Deferred} {fn : Func} {irs : List IRes} (hc : compR P fn.results.toList = some irs) {μ : List MI} {w : World} {a : Act} {fr : FR} {ba lo : List Ob} {K : AV → List Ob → List Ob → Prop} (h : resI fr ba lo irs K) (hr : Rel N B T μ w a fr ba lo) :
    ∃ v r, (results fn a.tmps).run P w = .ok v w ∧ K r ba lo ∧ VA ⟨blocks μ, ba.length, μ⟩ w v r := by
  obtain ⟨as, vs, h1, h2, h3, h4⟩ := ressK_out _ _ hc h hr
  have hrun : (results fn a.tmps).run P w = .ok (if h : vs.toArray.size = 1 then vs.toArray[0] else .tuple vs.toArray) w := by
    rw [results_eq]
    have : fn.results.mapM (resRun a.tmps) = (do let l ← fn.results.toList.mapM (resRun a.tmps); pure l.toArray) := by
      rw [Array.mapM_eq_mapM_toList]
      rfl
    rw [this]
    simp only [Sem.run_bind, h2, Result.andThen, Sem.run_pure]
  split at h1
  · rename_i r
    obtain ⟨v, rfl⟩ := List.length_eq_one_iff.1 h3
    exact ⟨v, r, hrun, h1, h4 0 v r rfl rfl⟩
  · rename_i h8
    obtain ⟨r, h9, hk⟩ := mkTupK_out h1
    have hl : vs.toArray.size ≠ 1 := by
      intro e
      have e' : as.length = 1 := by rw [← h3]; simpa using e
      obtain ⟨x, rfl⟩ := List.length_eq_one_iff.1 e'
      exact h8 x rfl
    rw [dif_neg hl] at hrun
    exact ⟨_, r, hrun, hk, VA.of_tup ⟨by simpa using h3, fun j x c hx hcj => h4 j x c (by simpa using hx) hcj⟩ h9⟩

theorem CallVC.inline {own : List Nat} {f : Nat} {ir : IF} {args : List AV} {ba lo : List Ob} {K : AV → List Ob → List Ob → Prop} (hc : compF P own f = some ir.bare) (h : bif Nat.beq args.length ir.params then W P ir.body (frameOf 0 args) ba lo (endI ir K) else False) : CallVC P f args ba lo K := by
  refine ⟨fun μ w xs hi hx => ?_⟩
  unfold compF at hc
  split at hc
  · cases hc
  · rename_i fn hfn
    split at hc
    · cases hc
    · rename_i c hbody
      split at hc
      · rename_i ic rs hic hrs
        split at hc
        · rename_i hcond
          obtain ⟨hpar, _, hm⟩ := hcond
          have hc := Option.some.inj hc
          have e1 : ic = ir.body.bare := congrArg IF.body hc
          have e2 : rs = ir.res := congrArg IF.res hc
          have e3 : fn.params.size + fn.nfree = ir.params := congrArg IF.params hc
          subst e1
          subst e2
          cases hb : Nat.beq args.length ir.params with
          | false => rw [hb] at h; exact h.elim
          | true =>
            rw [hb] at h
            have hlen : args.length = ir.params := Nat.eq_of_beq_eq_true hb
            have h : W P ir.body (frameOf 0 args) ba lo (endI ir K) := h
            have hsz : xs.size = args.length := hx.1
            have hrel : Rel fn.ntmps w.heap.size [] μ w { tmps := xs ++ Array.replicate (fn.ntmps - xs.size) undef, defers := [] } (frameOf 0 args) ba lo := by
              refine ⟨hi, by simp; omega, Nat.le_refl _, .nil, fun t => ?_⟩
              rw [frameOf_get, if_pos (Nat.zero_le _), Nat.sub_zero]
              simp only [Array.getD_eq_getD_getElem?]
              rcases Nat.lt_or_ge t args.length with ht | ht
              · rw [Array.getElem?_append_left (by omega), Array.getElem?_eq_getElem (by omega), List.getElem?_eq_getElem ht]
                exact hx.2 t _ _ (Array.getElem?_eq_getElem (by omega)) (List.getElem?_eq_getElem ht)
              · rw [List.getElem?_eq_none (by omega)]
                exact .p _ _ (.undef _)
            refine callsIn_wide.1 (callsIn_of_wp_marks (F := FW none) (n := 0) hfn hbody trivial (wpIn_mono (W_sound hm 0 ir.body c hic h hrel) fun e a' w' hp => ?_))
            obtain ⟨μ', fr', ba', lo', g1, g2, g3, g4⟩ := hp
            have fin : resI fr' ba' lo' ir.res K → LeavesInM (FW none) 0 P fn a'.tmps (fun e w' => ∃ v' r μ'' ba'' lo'', e = .returned v' ∧ VA ⟨blocks μ'', ba.length, μ''⟩ w' v' r ∧ Inv μ'' w' ba'' lo'' ∧ Le μ w μ'' w' ∧ ba''.length = ba.length ∧ K r ba'' lo'') a'.defers .returning w' := fun g1 => by
              obtain ⟨Ds, d1, d2, d3⟩ := g2.defers
              rw [d1, List.append_nil]
              refine leaves_marks Ds d2 (fun D hD => (d3 D hD).2.2) ?_
              obtain ⟨q1, q2⟩ := Rel.shut (a := a') Ds d2 d3 ⟨g2.inv, g2.size, g2.base, .nil, g2.vals⟩ g3
              obtain ⟨v, r, k1, k2, k3⟩ := resI_out hrs g1 q1
              exact ⟨v, k1, v, r, μ', ba', lo', rfl, by rw [← g4]; exact k3, q1.inv, q2, g4, k2⟩
            cases e with
            | normal => exact fin g1
            | ret => exact fin g1
            | exit id => exact g1.elim
            | goto l => exact g1.elim
            | panic ch => exact g1.elim
            | outgrown => exact g1.elim
        · cases hc
      · cases hc

/-! ### a call seen from nowhere: no objects but its own -/

theorem pureF_nil {f : Nat} {ps : List PV} {r : PV} (h : callA P f (ps.map .p) [] fun r' H' => r' = .p r ∧ H' = []) (hr : Flat r) : pureF P f (ps.map .p) (.p r) := by
  intro H μ w xs hi hx
  have hc := h [] w xs (inv_nil w) ⟨hx.1, fun j x a hj ha => by
    have := hx.2 j x a hj ha
    rw [List.getElem?_map] at ha
    obtain ⟨p, hp, rfl⟩ := Option.map_eq_some_iff.1 ha
    exact .p _ _ (this.pv.mono ⟨Nat.le_refl _, fun b _ _ => ⟨fun ⟨i, m, h, _⟩ => by simp at h, rfl⟩⟩)⟩
  refine Calls.mono' hc ?_
  rintro e w' ⟨v, r', H', μ', rfl, ⟨rfl, rfl⟩, g3, g4, g5⟩
  have hkeep : ∀ b, b < w.heap.size → w'.heap[b]? = w.heap[b]? := fun b hb => (g5.stays.2 b hb fun ⟨i, m, h, _⟩ => by simp at h).2
  exact ⟨v, _, _, μ, rfl, ⟨rfl, rfl⟩, hi.kept g5.stays.1 hkeep, .p _ _ (g4.pv.anywhere hr), g5.os, g5.tape, g5.output, .refl μ, g5.stays.1, fun b hb hm => ⟨hm, hkeep b hb⟩⟩

theorem pureF_nil_of {own : List Nat} {f : Nat} {ir : IF} {ps : List PV} {r : PV} (hc : compF P own f = some ir.bare) (hr : Flat r) (h : fnV P ir (ps.map .p) [] fun r' H' => r' = .p r ∧ H' = []) : pureF P f (ps.map .p) (.p r) :=
  pureF_nil (sound hc h) hr

/-! ### a list that is nil yet is an object without cells -/

theorem CallVC.ghost {f : Nat} {args : List AV} {ba lo : List Ob} {K : AV → List Ob → List Ob → Prop} (m j sz : Nat) {cs : List AV} (h1 : lo[m]? = some (.cells cs)) (h2 : cs[j]? = some (.p .nils))
    (h : CallVC P f args ba (lo.set m (.cells (cs.set j (.view (.l lo.length) 0 sz 0))) ++ [.buf 0 sz []]) K) : CallVC P f args ba lo K := by
  refine ⟨fun μ w xs hi hx => ?_⟩
  have hblk : ∀ b, blocks (μ ++ [.buf none 0 0]) b → blocks μ b := by
    rintro b ⟨i, m', hm, hb⟩
    rcases Nat.lt_or_ge i μ.length with hl | hl
    · rw [List.getElem?_append_left hl] at hm; exact ⟨i, m', hm, hb⟩
    · rw [List.getElem?_append_right hl] at hm
      have : i - μ.length = 0 := by have := get_lt hm; simp at this; omega
      rw [this] at hm
      cases hm
      cases hb
  have hst : Stays (blocks μ) w (blocks (μ ++ [.buf none 0 0])) w := ⟨Nat.le_refl _, fun b _ hb => ⟨fun hc => hb (hblk b hc), rfl⟩⟩
  have hab : Above μ (μ ++ [.buf none 0 0]) := fun i m' hm => ⟨m', by rw [List.getElem?_append_left (get_lt hm)]; exact hm, .refl _⟩
  have hle : ba.length ≤ μ.length := by rw [hi.len]; omega
  have htk : (μ ++ [MI.buf none 0 0]).take ba.length = μ.take ba.length := List.take_append_of_le_length hle
  have obm : ∀ {m : MI} {o : Ob} {μ1 μ2 : List MI}, Above μ1 μ2 → ObOk ⟨blocks μ, ba.length, μ1⟩ w m o → ObOk ⟨blocks (μ ++ [.buf none 0 0]), ba.length, μ2⟩ w m o := fun ha ho => ho.mono hst ha fun b _ => rfl
  have hml := get_lt h1
  have hi2 : Inv (μ ++ [.buf none 0 0]) w ba (lo.set m (.cells (cs.set j (.view (.l lo.length) 0 sz 0))) ++ [.buf 0 sz []]) := by
    refine ⟨by simp [hi.len]; omega, fun a c m1 m2 b g1 g2 g3 g4 => ?_, fun i o ho => ?_, fun k o ho => ?_⟩
    · have lt : ∀ {a : Nat} {m1 : MI}, (μ ++ [.buf none 0 0])[a]? = some m1 → m1.block? = some b → μ[a]? = some m1 := fun {a m1} g1 g3 => by
        rcases Nat.lt_or_ge a μ.length with hl | hl
        · rwa [List.getElem?_append_left hl] at g1
        · rw [List.getElem?_append_right hl] at g1
          have : a - μ.length = 0 := by have := get_lt g1; simp at this; omega
          rw [this] at g1
          cases g1
          cases g3
      exact hi.apart a c m1 m2 b (lt g1 g3) (lt g2 g4) g3 g4
    · obtain ⟨m1, g1, g2⟩ := hi.bases i o ho
      refine ⟨m1, by rw [List.getElem?_append_left (get_lt g1)]; exact g1, ?_⟩
      rw [htk]
      exact obm (.refl _) g2
    · rcases Nat.lt_or_ge k lo.length with hk | hk
      · rw [List.getElem?_append_left (by simpa using hk), List.getElem?_set] at ho
        by_cases hkm : m = k
        · subst hkm
          rw [if_pos rfl, if_pos hml] at ho
          cases ho
          obtain ⟨m1, g1, g2⟩ := hi.locs m _ h1
          refine ⟨m1, by rw [List.getElem?_append_left (get_lt g1)]; exact g1, ?_⟩
          cases obm hab g2 with
          | cells b ys t _ k1 k2 k3 =>
            refine .cells b ys t _ k1 (by simpa using k2) fun i x c hx hc => ?_
            rw [List.getElem?_set] at hc
            by_cases hij : j = i
            · subst hij
              rw [if_pos rfl, if_pos (get_lt h2)] at hc
              cases hc
              have hv := k3 j x _ hx h2
              refine ⟨?_, hv.2⟩
              have hx0 : x = .slice none 0 0 := by
                have := hv.1.pv
                cases this; rfl
              rw [hx0]
              exact .view0 _ _ _ 0 (by simp only [Ctx.at]; rw [← hi.len, List.getElem?_append_right (Nat.le_refl _), Nat.sub_self]; rfl)
            · rw [if_neg hij] at hc
              exact k3 i x c hx hc
        · rw [if_neg hkm] at ho
          obtain ⟨m1, g1, g2⟩ := hi.locs k o ho
          exact ⟨m1, by rw [List.getElem?_append_left (get_lt g1)]; exact g1, obm hab g2⟩
      · rw [List.getElem?_append_right (by simpa using hk)] at ho
        have hk2 : k = lo.length := by have := get_lt ho; simp at this; omega
        subst hk2
        simp at ho
        subst ho
        exact ⟨.buf none 0 0, by rw [← hi.len, List.getElem?_append_right (Nat.le_refl _), Nat.sub_self]; rfl, .buf0 _ _ _⟩
  refine (h.out (μ ++ [.buf none 0 0]) w xs hi2 ⟨hx.1, fun j x a hj ha => (hx.2 j x a hj ha).mono hst hab⟩).mono fun e w' hw => ?_
  obtain ⟨v, r, μ', ba', lo', g1, g2, g3, g4, g5, g6⟩ := hw
  exact ⟨v, r, μ', ba', lo', g1, g2, g3, ⟨g4.os, g4.tape, g4.output, hab.trans g4.above, hst.trans g4.stays⟩, g5, g6⟩

end
end Go.Proofs.YtgdimfogijfmiaaDoor.AD

namespace Go.Proofs.YtgdimfogijfmiaaDoor.AD
set_option linter.unusedVariables false
section
variable {P : Program}

mutual
def AV.ren (g : Rf → Rf) : AV → AV
  | .p v => .p v
  | .ref r o => .ref (g r) o
  | .view r a sz len => .view (g r) a sz len
  | .elt r a sz i o => .elt (g r) a sz i o
  | .tail r a sz o len => .tail (g r) a sz o len
  | .mapr r => .mapr (g r)
  | .clos f as bs => .clos f (AV.rens g as) (AV.rens g bs)
  | .agg cs => .agg (AV.rens g cs)
  | .tup cs => .tup (AV.rens g cs)
def AV.rens (g : Rf → Rf) : List AV → List AV
  | [] => []
  | a :: r => AV.ren g a :: AV.rens g r
end
theorem rens_map (g : Rf → Rf) : ∀ l, AV.rens g l = l.map (AV.ren g)
  | [] => by rw [AV.rens]; rfl
  | a :: r => by rw [AV.rens, rens_map g r]; rfl
theorem rens_get (g : Rf → Rf) (l : List AV) (j : Nat) : (AV.rens g l)[j]? = (l[j]?).map (AV.ren g) := by rw [rens_map, List.getElem?_map]
theorem rens_length (g : Rf → Rf) (l : List AV) : (AV.rens g l).length = l.length := by rw [rens_map, List.length_map]
def Ob.ren (g : Rf → Rf) : Ob → Ob
  | .cells cs => .cells (AV.rens g cs)
  | .loop l r ks cs st => .loop l r ks (AV.rens g cs) st
  | .mapA ks cs => .mapA ks (AV.rens g cs)
  | .bufA a cs => .bufA a (AV.rens g cs)
  | o => o

theorem VP.less {M M' : Nat → Prop} {w : World} (hM : ∀ b, ¬ M b → ¬ M' b) {v : Value} {e : PV} (h : VP M w v e) : VP M' w v e := h.mono ⟨Nat.le_refl _, fun b _ hb => ⟨hM b hb, rfl⟩⟩

theorem VA.ren {Γ Γ' : Ctx} {w : World} {g : Rf → Rf} (hM : ∀ b, ¬ Γ.M b → ¬ Γ'.M b) (hat : ∀ r m, Γ.at r = some m → Γ'.at (g r) = some m) {v : Value} {a : AV} (h : VA Γ w v a) : VA Γ' w v (a.ren g) := by
  induction h with
  | p v e h => rw [AV.ren]; exact .p v e (h.less hM)
  | ref r off b h => rw [AV.ren]; exact .ref _ off b (hat _ _ h)
  | view0 r g' sz n h => rw [AV.ren]; exact .view0 _ g' sz n (hat _ _ h)
  | view r g' sz n b len cap h hl hc => rw [AV.ren]; exact .view _ g' sz n b len cap (hat _ _ h) hl hc
  | viewOld v r g' sz len b g2 n h hg h0 => rw [AV.ren]; exact .viewOld v _ g' sz len b g2 n (hat _ _ h) hg h0
  | viewGone v r g' sz len h h0 => rw [AV.ren]; exact .viewGone v _ g' sz len (hat _ _ h) h0
  | elt r g' sz n b idx off h => rw [AV.ren]; exact .elt _ g' sz n b idx off (hat _ _ h)
  | eltOld v r g' sz idx off b g2 n h hg h0 => rw [AV.ren]; exact .eltOld v _ g' sz idx off b g2 n (hat _ _ h) hg h0
  | eltGone v r g' sz idx off h h0 => rw [AV.ren]; exact .eltGone v _ g' sz idx off (hat _ _ h) h0
  | tail r g' sz n b off len cap h hl hc => rw [AV.ren]; exact .tail _ g' sz n b off len cap (hat _ _ h) hl hc
  | tail0 r g' sz n off b A h => rw [AV.ren]; exact .tail0 _ g' sz n off b A (hat _ _ h)
  | tailOld v r g' sz off len b g2 n h hg h0 => rw [AV.ren]; exact .tailOld v _ g' sz off len b g2 n (hat _ _ h) hg h0
  | tailGone v r g' sz off len h h0 => rw [AV.ren]; exact .tailGone v _ g' sz off len (hat _ _ h) h0
  | mapr r b h => rw [AV.ren]; exact .mapr _ b (hat _ _ h)
  | maprGone v r h h0 => rw [AV.ren]; exact .maprGone v _ (hat _ _ h) h0
  | clos f xs ys as bs h1 h2 _ _ ih1 ih2 =>
    rw [AV.ren]
    exact .clos f xs ys _ _ (by rw [rens_length]; exact h1) (by rw [rens_length]; exact h2) (fun j x c hx hc => by
      rw [rens_get] at hc
      obtain ⟨c', hc', rfl⟩ := map_some hc
      exact ih1 j x c' hx hc') (fun j x c hx hc => by
      rw [rens_get] at hc
      obtain ⟨c', hc', rfl⟩ := map_some hc
      exact ih2 j x c' hx hc')
  | agg xs cs h1 _ h3 ih =>
    rw [AV.ren]
    exact .agg xs _ (by rw [rens_length]; exact h1) (fun j x c hx hc => by
      rw [rens_get] at hc
      obtain ⟨c', hc', rfl⟩ := map_some hc
      exact ih j x c' hx hc') h3
  | tup xs cs h1 _ ih =>
    rw [AV.ren]
    exact .tup xs _ (by rw [rens_length]; exact h1) (fun j x c hx hc => by
      rw [rens_get] at hc
      obtain ⟨c', hc', rfl⟩ := map_some hc
      exact ih j x c' hx hc')

theorem ObOk.ren {Γ Γ' : Ctx} {w : World} {g : Rf → Rf} (hM : ∀ b, ¬ Γ.M b → ¬ Γ'.M b) (hat : ∀ r m, Γ.at r = some m → Γ'.at (g r) = some m) {m : MI} {o : Ob} (h : ObOk Γ w m o) : ObOk Γ' w m (o.ren g) := by
  cases h with
  | cells b xs t cs a1 a2 a3 =>
    exact .cells b xs t _ a1 (by rw [rens_length]; exact a2) fun j x c hx hc => by
      rw [rens_get] at hc
      obtain ⟨c', hc', rfl⟩ := map_some hc
      exact ⟨(a3 j x c' hx hc').1.ren hM hat, (a3 j x c' hx hc').2⟩
  | loop l r ks cs st p a1 a2 a0 a3 =>
    exact .loop l r ks _ st p a1 a2 (by rw [rens_length]; exact a0) fun j t c hj hc => by
      rw [rens_get] at hc
      obtain ⟨c', hc', rfl⟩ := map_some hc
      exact (a3 j t c' hj hc').ren hM hat
  | buf0 g sz n => exact .buf0 g sz n
  | buf b g n sz xs t es c a1 a2 a3 a4 => exact .buf b g n sz xs t es c a1 a2 a3 fun j e he => ⟨(a4 j e he).1, (a4 j e he).2.1, (a4 j e he).2.2.less hM⟩
  | map b clock xs es a1 a2 a3 a4 a5 => exact .map b clock xs es a1 a2 (fun j x e hx he => ⟨(a3 j x e hx he).1.less hM, (a3 j x e hx he).2.less hM⟩) a4 a5
  | mapA b clock xs ks vs a1 a2 a3 a4 a5 =>
    exact .mapA b clock xs ks _ a1 a2 (by rw [rens_length]; exact a3) (fun j x e hx he => (a4 j x e hx he).less hM) fun j x c hx hc => by
      rw [rens_get] at hc
      obtain ⟨c', hc', rfl⟩ := map_some hc
      exact (a5 j x c' hx hc').ren hM hat
  | bufA b g' n xs t es a1 a2 a3 a4 =>
    exact .bufA b g' n xs t _ a1 a2 (by rw [rens_length]; exact a3) fun j x c hx hc => by
      rw [rens_get] at hc
      obtain ⟨c', hc', rfl⟩ := map_some hc
      exact ⟨(a4 j x c' hx hc').1.ren hM hat, (a4 j x c' hx hc').2⟩
  | gone => exact .gone

/-! ### an order -/

def posN (k : Nat) : List Nat → Nat
  | [] => 0
  | a :: r => bif Nat.beq a k then 0 else posN k r + 1
def atN (j : Nat) : List Nat → Nat
  | [] => 0
  | a :: r => match j with
    | 0 => a
    | j + 1 => atN j r
def posOf (π : List Nat) : Rf → Rf
  | .l k => .b (posN k π)
  | r => r
def backOf (π : List Nat) : Rf → Rf
  | .b j => .l (atN j π)
  | r => r

theorem posN_get {k : Nat} : ∀ {π : List Nat}, k ∈ π → π[posN k π]? = some k
  | [], h => by cases h
  | a :: r, h => by
    simp only [posN]
    cases hb : Nat.beq a k with
    | true => simp only [cond_true]; rw [Nat.eq_of_beq_eq_true hb]; rfl
    | false =>
      simp only [cond_false]
      have : k ∈ r := by
        cases h with
        | head => simp at hb
        | tail _ h => exact h
      simpa using posN_get this
theorem posN_at : ∀ {π : List Nat}, π.Nodup → ∀ {j i : Nat}, π[j]? = some i → posN i π = j
  | [], _, j, i, h => by simp at h
  | a :: r, hn, j, i, h => by
    rw [List.nodup_cons] at hn
    simp only [posN]
    cases j with
    | zero => simp at h; subst h; simp
    | succ j =>
      have h : r[j]? = some i := by simpa using h
      have hne : ¬ a = i := fun e => hn.1 (by rw [e]; exact List.mem_of_getElem? h)
      rw [beq_ne hne]
      simp only [cond_false]
      rw [posN_at hn.2 h]
theorem atN_get : ∀ {π : List Nat} {j i : Nat}, π[j]? = some i → atN j π = i
  | [], j, i, h => by simp at h
  | a :: r, j, i, h => by
    cases j with
    | zero => simp at h; subst h; rfl
    | succ j => exact atN_get (π := r) (by simpa using h)

theorem CallVC.meth {f : Nat} {args args' : List AV} {lo H0 H1 lo' : List Ob} {K : AV → List Ob → List Ob → Prop} {r1 : AV} (π : List Nat) (h : callA P f args' H0 fun r H' => r = r1 ∧ H' = H1)
    (ea : AV.rens (posOf π) args = args') (eh : (π.map fun i => (lo.getD i .gone).ren (posOf π)) = H0) (el : ((List.range lo.length).map fun i => (H1.getD (posN i π) .gone).ren (backOf π)) = lo') (hl : H1.length = lo.length)
    (p1 : π.Nodup) (p2 : ∀ k, k < lo.length → k ∈ π) (p3 : π.length = lo.length) (k : K (r1.ren (backOf π)) [] lo') : CallVC P f args [] lo K := by
  subst ea; subst eh; subst el
  refine ⟨fun μ w xs hi hx => ?_⟩
  have hn : μ.length = lo.length := by rw [hi.len]; simp
  have p4 : ∀ i, i ∈ π → i < lo.length := by
    intro i him
    rcases Nat.lt_or_ge i lo.length with h | h
    · exact h
    · -- one more than fits
      have hsub : (i :: List.range lo.length).Nodup := by
        rw [List.nodup_cons]
        exact ⟨by simp; exact h, List.nodup_range⟩
      have hle : (i :: List.range lo.length).length ≤ π.length := hsub.length_le_of_subset fun x hx => by
        cases hx with
        | head => exact him
        | tail _ hx => exact p2 x (List.mem_range.1 hx)
      simp at hle
      omega
  -- the places in the new order
  have get : ∀ (j : Nat) (m : MI), (π.map fun i => μ.getD i .gone)[j]? = some m ↔ ∃ i, π[j]? = some i ∧ μ[i]? = some m := fun j m => by
    rw [List.getElem?_map]
    constructor
    · intro h
      obtain ⟨i, h1, h2⟩ := map_some h
      refine ⟨i, h1, ?_⟩
      have hlt : i < μ.length := by rw [hn]; exact p4 i (List.mem_of_getElem? h1)
      rw [List.getElem?_eq_getElem hlt] at *
      simp [List.getD, hlt] at h2
      rw [h2]
    · rintro ⟨i, h1, h2⟩
      rw [h1]
      simp [List.getD, h2]
  have back : ∀ (i : Nat) (m : MI), μ[i]? = some m → (π.map fun i => μ.getD i .gone)[posN i π]? = some m := fun i m h => by
    rw [get]
    exact ⟨i, posN_get (p2 i (by rw [← hn]; exact get_lt h)), h⟩
  generalize hμ : (π.map fun i => μ.getD i .gone) = ν at get back
  have hνl : ν.length = lo.length := by rw [← hμ, List.length_map, p3]
  have hbk : ∀ b, blocks ν b ↔ blocks μ b := fun b => by
    constructor
    · rintro ⟨j, m, h1, h2⟩
      obtain ⟨i, _, h3⟩ := (get j m).1 h1
      exact ⟨i, m, h3, h2⟩
    · rintro ⟨i, m, h1, h2⟩
      exact ⟨_, m, back i m h1, h2⟩
  have hlen0 : (π.map fun i => (lo.getD i .gone).ren (posOf π)).length = lo.length := by rw [List.length_map, p3]
  have hat : ∀ r m, Ctx.at ⟨blocks μ, ([] : List Ob).length, μ⟩ r = some m → Ctx.at ⟨blocks ν, lo.length, ν⟩ (posOf π r) = some m := fun r m h => by
    cases r with
    | l k =>
      simp only [Ctx.at, List.length_nil, Nat.zero_add] at h
      simp only [posOf, Ctx.at]
      have hb := back k m h
      rw [if_pos (by rw [← hνl]; exact get_lt hb)]
      exact hb
    | b id => simp only [Ctx.at, List.length_nil] at h; rw [if_neg (Nat.not_lt_zero _)] at h; cases h
  have hM : ∀ b, ¬ blocks μ b → ¬ blocks ν b := fun b h h2 => h ((hbk b).1 h2)
  have hi2 : Inv ν w (π.map fun i => (lo.getD i .gone).ren (posOf π)) [] := by
    refine ⟨by rw [hνl, hlen0]; rfl, fun a c m m' b g1 g2 g3 g4 => ?_, fun j o ho => ?_, fun k o ho => by simp at ho⟩
    · obtain ⟨i1, a1, a2⟩ := (get a m).1 g1
      obtain ⟨i2, b1, b2⟩ := (get c m').1 g2
      have := hi.apart i1 i2 m m' b a2 b2 g3 g4
      subst this
      rw [← posN_at p1 a1, ← posN_at p1 b1]
    · rw [List.getElem?_map] at ho
      obtain ⟨i, h1, rfl⟩ := map_some ho
      have hlt := p4 i (List.mem_of_getElem? h1)
      obtain ⟨m, g1, g2⟩ := hi.locs i lo[i] (List.getElem?_eq_getElem hlt)
      simp only [List.length_nil, Nat.zero_add] at g1
      refine ⟨m, (get j m).2 ⟨i, h1, g1⟩, ?_⟩
      have e : lo.getD i .gone = lo[i] := by simp [List.getD, hlt]
      rw [e, hlen0, List.take_of_length_le (by omega)]
      exact g2.ren hM hat
  refine (h ν w xs hi2 ⟨by rw [rens_length]; exact hx.1, fun j x a hj ha => ?_⟩).mono fun e w' hw => ?_
  · rw [rens_get] at ha
    obtain ⟨a', ha', rfl⟩ := map_some ha
    rw [hlen0]
    exact (hx.2 j x a' hj ha').ren hM hat
  · obtain ⟨v, r, H', ν', he, ⟨rfl, rfl⟩, g3, g4, g5⟩ := hw
    have hν'l : ν'.length = lo.length := by have := g3.len; simp at this; omega
    have rng : ∀ {i : Nat}, (List.range lo.length)[i]? = if i < lo.length then some i else none := fun {i} => by
      by_cases hl : i < lo.length
      · rw [if_pos hl, List.getElem?_range hl]
      · rw [if_neg hl, List.getElem?_eq_none (by simp; omega)]
    have get2 : ∀ (i : Nat) (m : MI), ((List.range lo.length).map fun i => ν'.getD (posN i π) .gone)[i]? = some m ↔ i < lo.length ∧ ν'[posN i π]? = some m := fun i m => by
      rw [List.getElem?_map, rng]
      by_cases hl : i < lo.length
      · have hp : posN i π < ν'.length := by rw [hν'l, ← p3]; exact get_lt (posN_get (p2 i hl))
        simp [hl, List.getD, hp]
      · simp [hl]
    generalize hμ3 : ((List.range lo.length).map fun i => ν'.getD (posN i π) .gone) = μ3 at get2
    have hμ3l : μ3.length = lo.length := by rw [← hμ3]; simp
    have fwd : ∀ (j : Nat) (m : MI), ν'[j]? = some m → ∃ i, π[j]? = some i ∧ μ3[i]? = some m := fun j m h => by
      have hj : j < π.length := by rw [p3, ← hν'l]; exact get_lt h
      have h1 : π[j]? = some π[j] := List.getElem?_eq_getElem hj
      refine ⟨_, h1, (get2 _ m).2 ⟨p4 _ (List.getElem_mem _), ?_⟩⟩
      rw [posN_at p1 h1]
      exact h
    have hbk3 : ∀ b, blocks μ3 b ↔ blocks ν' b := fun b => by
      constructor
      · rintro ⟨i, m, h1, h2⟩
        exact ⟨_, m, ((get2 i m).1 h1).2, h2⟩
      · rintro ⟨j, m, h1, h2⟩
        obtain ⟨i, _, h3⟩ := fwd j m h1
        exact ⟨i, m, h3, h2⟩
    have hM3 : ∀ b, ¬ blocks ν' b → ¬ blocks μ3 b := fun b h h2 => h ((hbk3 b).1 h2)
    have hat3 : ∀ (X : List MI), (∀ (j : Nat) (m : MI), X[j]? = some m → ν'[j]? = some m) → ∀ r m, Ctx.at ⟨blocks ν', H'.length, X⟩ r = some m → Ctx.at ⟨blocks μ3, ([] : List Ob).length, μ3⟩ (backOf π r) = some m := fun X hX r m h => by
      cases r with
      | l k =>
        simp only [Ctx.at] at h
        have := get_lt (hX _ _ h)
        omega
      | b j =>
        simp only [Ctx.at] at h
        split at h
        · obtain ⟨i, h1, h2⟩ := fwd j m (hX _ _ h)
          simp only [backOf, Ctx.at, List.length_nil, Nat.zero_add]
          rw [atN_get h1]
          exact h2
        · cases h
    refine ⟨v, _, μ3, [], _, he, g4.ren hM3 (hat3 ν' fun _ _ h => h), ?_, ⟨g5.os, g5.tape, g5.output, fun i m hm => ?_, g5.stays.1, fun b hb hm => ?_⟩, rfl, k⟩
    · refine ⟨by rw [hμ3l]; simp, fun a c m m' b g1 g2 h3 h4 => ?_, fun i o ho => by simp at ho, fun i o ho => ?_⟩
      · obtain ⟨a1, a2⟩ := (get2 a m).1 g1
        obtain ⟨b1, b2⟩ := (get2 c m').1 g2
        have e1 := g3.apart _ _ m m' b a2 b2 h3 h4
        have e2 := posN_get (p2 a a1)
        have e3 := posN_get (p2 c b1)
        rw [e1, e3] at e2
        exact (Option.some.inj e2).symm
      · rw [List.getElem?_map, rng] at ho
        by_cases hl2 : i < lo.length
        · rw [if_pos hl2] at ho
          simp only [Option.map_some, Option.some.injEq] at ho
          subst ho
          have hp : posN i π < H'.length := by rw [hl, ← p3]; exact get_lt (posN_get (p2 i hl2))
          obtain ⟨m, k1, k2⟩ := g3.bases (posN i π) H'[posN i π] (List.getElem?_eq_getElem hp)
          refine ⟨m, by simp only [List.length_nil, Nat.zero_add]; exact (get2 i m).2 ⟨hl2, k1⟩, ?_⟩
          have e : H'.getD (posN i π) .gone = H'[posN i π] := by simp [List.getD, hp]
          rw [e]
          refine k2.ren hM3 (hat3 _ fun j m h => ?_)
          rw [List.getElem?_take] at h
          split at h
          · exact h
          · cases h
        · rw [if_neg hl2] at ho
          cases ho
    · obtain ⟨m', h1, h2⟩ := g5.above _ m (back i m hm)
      exact ⟨m', (get2 i m').2 ⟨by rw [← hn]; exact get_lt hm, h1⟩, h2⟩
    · have hm2 : ¬ blocks ν b := fun h => hm ((hbk b).1 h)
      obtain ⟨h1, h2⟩ := g5.stays.2 b hb hm2
      exact ⟨hM3 b h1, h2⟩

end
end Go.Proofs.YtgdimfogijfmiaaDoor.AD

namespace Go.Proofs.YtgdimfogijfmiaaDoor.AD
set_option linter.unusedVariables false
section
variable {P : Program}

/-- A function called on objects of the caller's own, which stand first; it answers a plain value and leaves them so. -/
def Meth (P : Program) (f : Nat) (args : List AV) (os : List Ob) (r : PV) (os' : List Ob) : Prop := ∀ rest, callA P f args (os ++ rest) fun r' H' => r' = .p r ∧ H' = os' ++ rest

theorem Meth.of {own : List Nat} {f : Nat} {ir : IF} {args : List AV} {os os' : List Ob} {r : PV} (hc : compF P own f = some ir.bare) (h : ∀ rest, fnV P ir args (os ++ rest) fun r' H' => r' = .p r ∧ H' = os' ++ rest) : Meth P f args os r os' :=
  fun rest => sound hc (h rest)

def AV.clB (n : Nat) : AV → Bool
  | .p _ => true
  | .ref (.b i) _ => Nat.blt i n
  | .view (.b i) _ _ _ => Nat.blt i n
  | .elt (.b i) _ _ _ _ => Nat.blt i n
  | .mapr (.b i) => Nat.blt i n
  | .tail (.b i) _ _ _ _ => Nat.blt i n
  | _ => false
def avsCl (n : Nat) : List AV → Bool
  | [] => true
  | a :: r => a.clB n && avsCl n r
def obsCl (n : Nat) : List Ob → Bool
  | [] => true
  | .cells cs :: r => avsCl n cs && obsCl n r
  | .loop _ _ _ cs _ :: r => avsCl n cs && obsCl n r
  | .mapA _ cs :: r => avsCl n cs && obsCl n r
  | .bufA _ cs :: r => avsCl n cs && obsCl n r
  | _ :: r => obsCl n r

theorem blt_lt {i n : Nat} (h : Nat.blt i n = true) : i < n := by
  have : Nat.ble (i + 1) n = true := h
  exact Nat.le_of_ble_eq_true this

theorem clB_low {n m : Nat} (hm : n ≤ m) {a : AV} (h : a.clB n = true) : AV.Low m a ∧ a.lowL 0 = true := by
  unfold AV.clB at h
  split at h
  · exact ⟨.p _, rfl⟩
  · exact ⟨.ref _ _ (Nat.lt_of_lt_of_le (blt_lt h) hm), rfl⟩
  · exact ⟨.view _ _ _ _ (Nat.lt_of_lt_of_le (blt_lt h) hm), rfl⟩
  · exact ⟨.elt _ _ _ _ _ (Nat.lt_of_lt_of_le (blt_lt h) hm), rfl⟩
  · exact ⟨.mapr _ (Nat.lt_of_lt_of_le (blt_lt h) hm), rfl⟩
  · exact ⟨.tail _ _ _ _ _ (Nat.lt_of_lt_of_le (blt_lt h) hm), rfl⟩
  · cases h
theorem avsCl_low {n m : Nat} (hm : n ≤ m) : ∀ {l : List AV}, avsCl n l = true → ∀ a, a ∈ l → AV.Low m a ∧ a.lowL 0 = true
  | [], _, a, h => by cases h
  | b :: r, h, a, ha => by
    simp only [avsCl, Bool.and_eq_true] at h
    cases ha with
    | head => exact clB_low hm h.1
    | tail _ ha => exact avsCl_low hm h.2 a ha
theorem obsCl_low {n m : Nat} (hm : n ≤ m) : ∀ {l : List Ob}, obsCl n l = true → ∀ o, o ∈ l → o.LowB m
  | [], _, o, h => by cases h
  | o1 :: r, h, o, ho => by
    have hr : obsCl n r = true := by cases o1 <;> simp only [obsCl, Bool.and_eq_true] at h <;> first | exact h.2 | exact h
    cases ho with
    | head =>
      cases o1 <;> first | trivial | skip
      all_goals
        simp only [obsCl, Bool.and_eq_true] at h
        exact avsCl_low hm h.1
    | tail _ ho => exact obsCl_low hm hr o ho

/-- From one such function to another, on the same objects. -/
theorem CallVC.same {f : Nat} {args : List AV} {os os' rest lo : List Ob} {K : AV → List Ob → List Ob → Prop} {r : PV} (h : Meth P f args os r os') (ha : AV.closes (os ++ rest).length args = args) (hl : os'.length = os.length) (hc : obsCl os.length os' = true) (k : K (.p r) (os' ++ rest) lo) : CallVC P f args (os ++ rest) lo K := by
  have hlen : (os' ++ rest).length = (os ++ rest).length := by simp [hl]
  refine CallX.to ⟨?_⟩
  rw [ha]
  have e1 : flat (os ++ rest) lo = os ++ (rest ++ lo.map (Ob.close (os ++ rest).length)) := by rw [flat, List.append_assoc]
  rw [e1]
  refine (h _).mono fun r' H' ⟨h1, h2⟩ => ⟨.p r, os' ++ rest, lo, by rw [h1, AV.close], .p _, by rw [h2, List.append_assoc], hlen, fun o ho => ?_, fun o ho => .inl ho, k⟩
  rw [List.mem_append] at ho
  rcases ho with ho | ho
  · exact .inr (obsCl_low (by simp) hc o ho)
  · exact .inl (List.mem_append.2 (.inr ho))

/-- Where the objects are local ones, in another order. -/
theorem CallVC.methM {f : Nat} {args args' : List AV} {lo os os' lo' : List Ob} {K : AV → List Ob → List Ob → Prop} {r : PV} (π : List Nat) (h : Meth P f args' os r os')
    (ea : AV.rens (posOf π) args = args') (eo : (π.map fun i => (lo.getD i .gone).ren (posOf π)).take os.length = os) (ol : os'.length = os.length)
    (el : ((List.range lo.length).map fun i => ((os' ++ (π.map fun i => (lo.getD i .gone).ren (posOf π)).drop os.length).getD (posN i π) .gone).ren (backOf π)) = lo')
    (p1 : π.Nodup) (p2 : ∀ k, k < lo.length → k ∈ π) (p3 : π.length = lo.length) (k : K (.p r) [] lo') : CallVC P f args [] lo K := by
  have hd : (π.map fun i => (lo.getD i .gone).ren (posOf π)) = os ++ (π.map fun i => (lo.getD i .gone).ren (posOf π)).drop os.length := by
    conv => lhs; rw [← List.take_append_drop os.length (π.map fun i => (lo.getD i .gone).ren (posOf π)), eo]
  have hlen : os.length + ((π.map fun i => (lo.getD i .gone).ren (posOf π)).drop os.length).length = lo.length := by
    have := congrArg List.length hd
    rw [List.length_map, List.length_append] at this
    omega
  refine CallVC.meth (H0 := os ++ (π.map fun i => (lo.getD i .gone).ren (posOf π)).drop os.length) π (h _) ea hd el (by rw [List.length_append, ol]; exact hlen) p1 p2 p3 (by rw [AV.ren]; exact k)

/-- The same, where what is answered names one of the objects. -/
def MethV (P : Program) (f : Nat) (args : List AV) (os : List Ob) (r : AV) (os' : List Ob) : Prop := ∀ rest, callA P f args (os ++ rest) fun r' H' => r' = r ∧ H' = os' ++ rest

theorem MethV.of {own : List Nat} {f : Nat} {ir : IF} {args : List AV} {os os' : List Ob} {r : AV} (hc : compF P own f = some ir.bare) (h : ∀ rest, fnV P ir args (os ++ rest) fun r' H' => r' = r ∧ H' = os' ++ rest) : MethV P f args os r os' :=
  fun rest => sound hc (h rest)

theorem CallVC.methV {f : Nat} {args args' : List AV} {lo os os' lo' : List Ob} {K : AV → List Ob → List Ob → Prop} {r : AV} (π : List Nat) (h : MethV P f args' os r os')
    (ea : AV.rens (posOf π) args = args') (eo : (π.map fun i => (lo.getD i .gone).ren (posOf π)).take os.length = os) (ol : os'.length = os.length)
    (el : ((List.range lo.length).map fun i => ((os' ++ (π.map fun i => (lo.getD i .gone).ren (posOf π)).drop os.length).getD (posN i π) .gone).ren (backOf π)) = lo')
    (p1 : π.Nodup) (p2 : ∀ k, k < lo.length → k ∈ π) (p3 : π.length = lo.length) (k : K (r.ren (backOf π)) [] lo') : CallVC P f args [] lo K := by
  have hd : (π.map fun i => (lo.getD i .gone).ren (posOf π)) = os ++ (π.map fun i => (lo.getD i .gone).ren (posOf π)).drop os.length := by
    conv => lhs; rw [← List.take_append_drop os.length (π.map fun i => (lo.getD i .gone).ren (posOf π)), eo]
  have hlen : os.length + ((π.map fun i => (lo.getD i .gone).ren (posOf π)).drop os.length).length = lo.length := by
    have := congrArg List.length hd
    rw [List.length_map, List.length_append] at this
    omega
  exact CallVC.meth (H0 := os ++ (π.map fun i => (lo.getD i .gone).ren (posOf π)).drop os.length) π (h _) ea hd el (by rw [List.length_append, ol]; exact hlen) p1 p2 p3 k

/-- The same two, with everything told. -/
theorem CallVC.methM' {f : Nat} {args args' : List AV} {lo os os' : List Ob} {K : AV → List Ob → List Ob → Prop} {r : PV} (π : List Nat) (n : Nat) (lo' : List Ob) (h : Meth P f args' os r os') (hn : lo.length = n)
    (ea : AV.rens (posOf π) args = args') (eo : (π.map fun i => (lo.getD i .gone).ren (posOf π)).take os.length = os) (ol : os'.length = os.length)
    (el : ((List.range n).map fun i => ((os' ++ (π.map fun i => (lo.getD i .gone).ren (posOf π)).drop os.length).getD (posN i π) .gone).ren (backOf π)) = lo')
    (p1 : π.Nodup) (p2 : ∀ k, k < n → k ∈ π) (p3 : π.length = n) (k : K (.p r) [] lo') : CallVC P f args [] lo K := by
  subst hn
  exact CallVC.methM π h ea eo ol el p1 p2 p3 k
theorem CallVC.methV' {f : Nat} {args args' : List AV} {lo os os' : List Ob} {K : AV → List Ob → List Ob → Prop} {r : AV} (π : List Nat) (n : Nat) (lo' : List Ob) (r' : AV) (h : MethV P f args' os r os') (hn : lo.length = n)
    (ea : AV.rens (posOf π) args = args') (eo : (π.map fun i => (lo.getD i .gone).ren (posOf π)).take os.length = os) (ol : os'.length = os.length) (er : r.ren (backOf π) = r')
    (el : ((List.range n).map fun i => ((os' ++ (π.map fun i => (lo.getD i .gone).ren (posOf π)).drop os.length).getD (posN i π) .gone).ren (backOf π)) = lo')
    (p1 : π.Nodup) (p2 : ∀ k, k < n → k ∈ π) (p3 : π.length = n) (k : K r' [] lo') : CallVC P f args [] lo K := by
  subst hn; subst er
  exact CallVC.methV π h ea eo ol el p1 p2 p3 k

theorem Lend.all {ba lo : List Ob} (r : Rf) (g sz len : Nat) {es : List PV} (h : findO ba lo r = some (.buf g sz es)) (hl : len = es.length) : Lend ba lo (.view r g sz len) (.list sz es) := by
  have := Lend.view r g sz len es h (by omega)
  rw [hl, List.take_length] at this
  rw [hl]
  exact this

theorem Meth.args {f : Nat} {xs ys : List AV} {os os' : List Ob} {r : PV} (h : Meth P f ys os r os') (hl : AVles xs ys) : Meth P f xs os r os' := fun rest => (h rest).args hl

end
end Go.Proofs.YtgdimfogijfmiaaDoor.AD

namespace Go.Proofs.YtgdimfogijfmiaaDoor.AD
set_option linter.unusedVariables false
section
variable {P : Program}

/-- Values in which nothing is held but own objects. -/
inductive FlatA : AV → Prop
  | p (v : PV) : Flat v → FlatA (.p v)
  | ref (r : Rf) (o : Nat) : FlatA (.ref r o)
  | view (r : Rf) (g sz len : Nat) : FlatA (.view r g sz len)
  | elt (r : Rf) (g sz i o : Nat) : FlatA (.elt r g sz i o)
  | mapr (r : Rf) : FlatA (.mapr r)
  | tail (r : Rf) (g sz o len : Nat) : FlatA (.tail r g sz o len)
  | clos (f : Fn) (vs bs : List AV) : (∀ a, a ∈ vs → FlatA a) → (∀ a, a ∈ bs → FlatA a) → FlatA (.clos f vs bs)
  | agg (cs : List AV) : (∀ a, a ∈ cs → FlatA a) → FlatA (.agg cs)
  | tup (cs : List AV) : (∀ a, a ∈ cs → FlatA a) → FlatA (.tup cs)
def FlatO : Ob → Prop
  | .cells cs => ∀ a, a ∈ cs → FlatA a
  | .loop _ _ _ cs _ => ∀ a, a ∈ cs → FlatA a
  | .buf _ _ es => ∀ e, e ∈ es → Flat e
  | .map es => ∀ e, e ∈ es → Flat e.1 ∧ Flat e.2
  | .mapA ks cs => (∀ e, e ∈ ks → Flat e) ∧ ∀ a, a ∈ cs → FlatA a
  | .bufA _ cs => ∀ a, a ∈ cs → FlatA a
  | .gone => True

theorem VA.anyM {M M' : Nat → Prop} {n0 : Nat} {μ : List MI} {w : World} {v : Value} {a : AV} (h : VA ⟨M, n0, μ⟩ w v a) : FlatA a → VA ⟨M', n0, μ⟩ w v a := by
  have hat : ∀ {r : Rf} {m : MI}, Ctx.at ⟨M, n0, μ⟩ r = some m → Ctx.at ⟨M', n0, μ⟩ r = some m := fun {r m} h => by
    cases r <;> exact h
  induction h with
  | p v e h =>
    intro hf
    cases hf with
    | p _ hf => exact .p v e (h.anywhere hf)
  | ref r off b h => intro _; exact .ref _ off b (hat h)
  | view0 r g' sz n h => intro _; exact .view0 _ g' sz n (hat h)
  | view r g' sz n b len cap h hl hc => intro _; exact .view _ g' sz n b len cap (hat h) hl hc
  | viewOld v r g' sz len b g2 n h hg h0 => intro _; exact .viewOld v _ g' sz len b g2 n (hat h) hg h0
  | viewGone v r g' sz len h h0 => intro _; exact .viewGone v _ g' sz len (hat h) h0
  | elt r g' sz n b idx off h => intro _; exact .elt _ g' sz n b idx off (hat h)
  | eltOld v r g' sz idx off b g2 n h hg h0 => intro _; exact .eltOld v _ g' sz idx off b g2 n (hat h) hg h0
  | eltGone v r g' sz idx off h h0 => intro _; exact .eltGone v _ g' sz idx off (hat h) h0
  | tail r g' sz n b off len cap h hl hc => intro _; exact .tail _ g' sz n b off len cap (hat h) hl hc
  | tail0 r g' sz n off b A h => intro _; exact .tail0 _ g' sz n off b A (hat h)
  | tailOld v r g' sz off len b g2 n h hg h0 => intro _; exact .tailOld v _ g' sz off len b g2 n (hat h) hg h0
  | tailGone v r g' sz off len h h0 => intro _; exact .tailGone v _ g' sz off len (hat h) h0
  | mapr r b h => intro _; exact .mapr _ b (hat h)
  | maprGone v r h h0 => intro _; exact .maprGone v _ (hat h) h0
  | clos f xs ys vs bs h1 h2 _ _ ih1 ih2 =>
    intro hf
    cases hf with
    | clos _ _ _ f1 f2 => exact .clos f xs ys vs bs h1 h2 (fun j x c hx hc => ih1 j x c hx hc (f1 c (List.mem_of_getElem? hc))) (fun j x c hx hc => ih2 j x c hx hc (f2 c (List.mem_of_getElem? hc)))
  | agg xs cs h1 _ h3 ih =>
    intro hf
    cases hf with
    | agg _ f1 => exact .agg xs cs h1 (fun j x c hx hc => ih j x c hx hc (f1 c (List.mem_of_getElem? hc))) h3
  | tup xs cs h1 _ ih =>
    intro hf
    cases hf with
    | tup _ f1 => exact .tup xs cs h1 (fun j x c hx hc => ih j x c hx hc (f1 c (List.mem_of_getElem? hc)))

theorem ObOk.anyM {M M' : Nat → Prop} {n0 : Nat} {μ : List MI} {w : World} {m : MI} {o : Ob} (h : ObOk ⟨M, n0, μ⟩ w m o) (hf : FlatO o) : ObOk ⟨M', n0, μ⟩ w m o := by
  cases h with
  | cells b xs t cs a1 a2 a3 => exact .cells b xs t _ a1 a2 fun j x c hx hc => ⟨(a3 j x c hx hc).1.anyM (hf c (List.mem_of_getElem? hc)), (a3 j x c hx hc).2⟩
  | buf0 g sz n => exact .buf0 g sz n
  | buf b g n sz xs t es c a1 a2 a3 a4 => exact .buf b g n sz xs t es c a1 a2 a3 fun j e he => ⟨(a4 j e he).1, (a4 j e he).2.1, (a4 j e he).2.2.anywhere (hf e (List.mem_of_getElem? he))⟩
  | map b clock xs es a1 a2 a3 a4 a5 => exact .map b clock xs es a1 a2 (fun j x e hx he => ⟨(a3 j x e hx he).1.anywhere (hf e (List.mem_of_getElem? he)).1, (a3 j x e hx he).2.anywhere (hf e (List.mem_of_getElem? he)).2⟩) a4 a5
  | mapA b clock xs ks vs a1 a2 a3 a4 a5 => exact .mapA b clock xs ks vs a1 a2 a3 (fun j x e hx he => (a4 j x e hx he).anywhere (hf.1 e (List.mem_of_getElem? he))) fun j x c hx hc => (a5 j x c hx hc).anyM (hf.2 c (List.mem_of_getElem? hc))
  | bufA b g n xs t es a1 a2 a3 a4 => exact .bufA b g n xs t es a1 a2 a3 fun j x c hx hc => ⟨(a4 j x c hx hc).1.anyM (hf c (List.mem_of_getElem? hc)), (a4 j x c hx hc).2⟩
  | loop l r ks cs st p a1 a2 a0 a3 => exact .loop l r ks cs st p a1 a2 a0 fun j t c hj hc => (a3 j t c hj hc).anyM (hf c (List.mem_of_getElem? hc))
  | gone => exact .gone

theorem ObOk.lt {Γ : Ctx} {w : World} {m : MI} {o : Ob} (h : ObOk Γ w m o) {b : Nat} (hb : m.block? = some b) : b < w.heap.size := by
  cases h with
  | cells b xs t cs a1 => cases hb; exact (Array.getElem?_eq_some_iff.1 a1).1
  | buf0 => cases hb
  | buf b g n sz xs t es c a1 => cases hb; exact (Array.getElem?_eq_some_iff.1 a1).1
  | map b clock xs es a1 => cases hb; exact (Array.getElem?_eq_some_iff.1 a1).1
  | mapA b clock xs ks vs a1 => cases hb; exact (Array.getElem?_eq_some_iff.1 a1).1
  | bufA b g n xs t es a1 => cases hb; exact (Array.getElem?_eq_some_iff.1 a1).1
  | loop l r ks cs st p a1 => cases hb; exact (Array.getElem?_eq_some_iff.1 a1).1
  | gone => cases hb
theorem Inv.lt {μ : List MI} {w : World} {ba lo : List Ob} (h : Inv μ w ba lo) {b : Nat} (hb : blocks μ b) : b < w.heap.size := by
  obtain ⟨i, m, hm, hmb⟩ := hb
  have hi := get_lt hm
  rw [h.len] at hi
  rcases Nat.lt_or_ge i ba.length with hl | hl
  · obtain ⟨m', h1, h2⟩ := h.bases i ba[i] (List.getElem?_eq_getElem hl)
    rw [h1] at hm; cases hm
    exact h2.lt hmb
  · have hk : i - ba.length < lo.length := by omega
    obtain ⟨m', h1, h2⟩ := h.locs (i - ba.length) lo[i - ba.length] (List.getElem?_eq_getElem hk)
    rw [Nat.add_sub_cancel' hl] at h1
    rw [h1] at hm; cases hm
    exact h2.lt hmb

def upR (n : Nat) : Rf → Rf
  | .l k => .l (n + k)
  | r => r

theorem blocks_append {μ μ' : List MI} {b : Nat} : blocks (μ ++ μ') b → blocks μ b ∨ blocks μ' b := by
  rintro ⟨i, m, hm, hb⟩
  rcases Nat.lt_or_ge i μ.length with hl | hl
  · rw [List.getElem?_append_left hl] at hm; exact .inl ⟨i, m, hm, hb⟩
  · rw [List.getElem?_append_right hl] at hm; exact .inr ⟨_, m, hm, hb⟩

theorem nil_args {M : Nat → Prop} {n0 : Nat} {μ : List MI} {w : World} {xs : Array Value} {ps : List PV} (hx : VAs ⟨M, n0, μ⟩ w xs (ps.map .p)) : VAs ⟨blocks [], 0, []⟩ w xs (ps.map .p) := by
  refine ⟨hx.1, fun j x a hj ha => ?_⟩
  have := hx.2 j x a hj ha
  rw [List.getElem?_map] at ha
  obtain ⟨p, hp, rfl⟩ := Option.map_eq_some_iff.1 ha
  exact .p _ _ (this.pv.mono ⟨Nat.le_refl _, fun b _ _ => ⟨fun ⟨i, m, h, _⟩ => by simp at h, rfl⟩⟩)

/-- What is made new stands behind what there is. -/
theorem CallVC.fresh {f : Nat} {ps : List PV} {lo os : List Ob} {r0 : AV} {K : AV → List Ob → List Ob → Prop} (h : CallVC P f (ps.map .p) [] [] fun r b l => r = r0 ∧ l = os) (hr : FlatA r0) (ho : ∀ o, o ∈ os → FlatO o)
    (n : Nat) (hn : lo.length = n) (k : K (r0.ren (upR n)) [] (lo ++ os.map (Ob.ren (upR n)))) : CallVC P f (ps.map .p) [] lo K := by
  subst hn
  refine ⟨fun μ w xs hi hx => ?_⟩
  refine (h.out [] w xs (inv_nil w) (nil_args hx)).mono fun e w' hw => ?_
  obtain ⟨v, r, μ', ba', lo', rfl, g2, g3, g4, g5, rfl, rfl⟩ := hw
  have hba : ba' = [] := List.length_eq_zero_iff.1 (by simpa using g5)
  subst hba
  have hμl : μ.length = lo.length := by rw [hi.len]; simp
  have none0 : ∀ b, ¬ blocks [] b := fun b ⟨i, m, h, _⟩ => by simp at h
  have hnew : ∀ b, b < w.heap.size → ¬ blocks μ' b ∧ w'.heap[b]? = w.heap[b]? := fun b hb => g4.stays.2 b hb (none0 b)
  have hst : Stays (blocks μ) w (blocks (μ ++ μ')) w' := ⟨g4.stays.1, fun b hb hm => ⟨fun hc => by
    rcases blocks_append hc with hc | hc
    · exact hm hc
    · exact (hnew b hb).1 hc, (hnew b hb).2⟩⟩
  have hab : Above μ (μ ++ μ') := fun i m hm => ⟨m, by rw [List.getElem?_append_left (get_lt hm)]; exact hm, .refl _⟩
  have hat : ∀ r m, Ctx.at ⟨blocks (μ ++ μ'), 0, μ'⟩ r = some m → Ctx.at ⟨blocks (μ ++ μ'), 0, μ ++ μ'⟩ (upR lo.length r) = some m := fun r m hm => by
    cases r with
    | l k =>
      simp only [Ctx.at, upR, Nat.zero_add] at hm ⊢
      rw [← hμl, List.getElem?_append_right (by omega), Nat.add_sub_cancel_left]
      exact hm
    | b id => simp [Ctx.at] at hm
  refine ⟨v, _, μ ++ μ', [], _, rfl, VA.ren (Γ := ⟨blocks (μ ++ μ'), 0, μ'⟩) (Γ' := ⟨blocks (μ ++ μ'), 0, μ ++ μ'⟩) (g := upR lo.length) (fun _ h => h) hat (VA.anyM g2 hr), ?_, ⟨g4.os, g4.tape, g4.output, hab, hst⟩, rfl, k⟩
  refine ⟨by have := g3.len; simp at this ⊢; omega, fun i j m m' b h1 h2 h3 h4 => ?_, fun i o ho => by simp at ho, fun k o hk => ?_⟩
  · rcases Nat.lt_or_ge i μ.length with hl | hl <;> rcases Nat.lt_or_ge j μ.length with hl2 | hl2
    · rw [List.getElem?_append_left hl] at h1
      rw [List.getElem?_append_left hl2] at h2
      exact hi.apart i j m m' b h1 h2 h3 h4
    · rw [List.getElem?_append_left hl] at h1
      rw [List.getElem?_append_right hl2] at h2
      exact absurd ⟨_, _, h2, h4⟩ (hnew b (hi.lt ⟨_, _, h1, h3⟩)).1
    · rw [List.getElem?_append_right hl] at h1
      rw [List.getElem?_append_left hl2] at h2
      exact absurd ⟨_, _, h1, h3⟩ (hnew b (hi.lt ⟨_, _, h2, h4⟩)).1
    · rw [List.getElem?_append_right hl] at h1
      rw [List.getElem?_append_right hl2] at h2
      have := g3.apart _ _ m m' b h1 h2 h3 h4
      omega
  · simp only [List.length_nil, Nat.zero_add]
    rcases Nat.lt_or_ge k lo.length with hl | hl
    · rw [List.getElem?_append_left hl] at hk
      obtain ⟨m, h1, h2⟩ := hi.locs k o hk
      simp only [List.length_nil, Nat.zero_add] at h1
      exact ⟨m, by rw [List.getElem?_append_left (get_lt h1)]; exact h1, h2.mono hst hab fun b hb => (hnew b (h2.lt hb)).2⟩
    · rw [List.getElem?_append_right hl, List.getElem?_map] at hk
      obtain ⟨o', ho', rfl⟩ := Option.map_eq_some_iff.1 hk
      obtain ⟨m, h1, h2⟩ := g3.locs _ o' ho'
      simp only [List.length_nil, Nat.zero_add] at h1
      exact ⟨m, by rw [List.getElem?_append_right (by omega), hμl]; exact h1, ObOk.ren (Γ := ⟨blocks (μ ++ μ'), 0, μ'⟩) (Γ' := ⟨blocks (μ ++ μ'), 0, μ ++ μ'⟩) (g := upR lo.length) (fun _ h => h) hat (ObOk.anyM h2 (ho o' (List.mem_of_getElem? ho')))⟩

/-! ### and may be told vs a plain value -/
inductive LendF (lo : List Ob) : AV → PV → Prop
  | p (v : PV) : Flat v → LendF lo (.p v) v
  | view (k g sz len : Nat) (es : List PV) : lo[k]? = some (.buf g sz es) → len = es.length → (∀ e, e ∈ es → Flat e) → LendF lo (.view (.l k) g sz len) (.list sz es)
  | agg (cs : List AV) (ps : List PV) : cs.length = ps.length → (∀ (j : Nat) (c : AV) (p : PV), cs[j]? = some c → ps[j]? = some p → LendF lo c p) → LendF lo (.agg cs) (.agg ps)
  | tup (cs : List AV) (ps : List PV) : cs.length = ps.length → (∀ (j : Nat) (c : AV) (p : PV), cs[j]? = some c → ps[j]? = some p → LendF lo c p) → LendF lo (.tup cs) (.tup ps)

theorem LendF.close {lo : List Ob} {a : AV} {p : PV} (h : LendF lo a p) : ∀ (μ : List MI) (w : World) (M : Nat → Prop), Inv μ w [] lo → (∀ b, blocks μ b → ¬ M b) → ∀ v, VA ⟨blocks μ, 0, μ⟩ w v a → VP M w v p := by
  induction h with
  | p v hf => intro μ w M hi hM x hx; exact hx.pv.anywhere hf
  | view k g sz len es hf hl hfl =>
    intro μ w M hi hM x hx
    subst hl
    obtain ⟨m, hm, hok⟩ := hi.locs k _ hf
    simp only [List.length_nil, Nat.zero_add] at hm
    have hat : Ctx.at ⟨blocks μ, 0, μ⟩ (.l k) = some m := by simp only [Ctx.at, Nat.zero_add]; exact hm
    generalize hlen : es.length = len at hx
    cases hx with
    | view0 _ _ _ n ha =>
      rw [List.length_eq_zero_iff.1 hlen]; exact .list0 _ _ _ fun _ => rfl
    | view _ _ _ n b _ cap ha hlc hcs =>
      rw [hat] at ha
      cases ha
      cases hok with
      | buf _ _ _ _ xs t _ c k1 k2 k3 k4 =>
        have hb : b < w.heap.size := (Array.getElem?_eq_some_iff.1 k1).1
        have hcell : ∀ (i : Nat) (y : Value), xs[i]? = some y → w.cell? ⟨b, 0 + i, none⟩ = some y := fun i y hy => by
          unfold World.cell?
          rw [k1]
          simp [hy]
        rw [← hlen]
        exact VP.list (M := M) (w := w) b 0 cap sz es c (hM b ⟨k, _, hm, rfl⟩) hb (by omega)
          (fun j e he => (k4 j e he).1)
          (fun j e he i y hy => ⟨((k4 j e he).2.1 i y hy).1, hcell _ _ ((k4 j e he).2.1 i y hy).2⟩)
          (fun j e he => (k4 j e he).2.2.anywhere (hfl e (List.mem_of_getElem? he)))
    | viewOld _ _ _ _ _ b g' n ha hg h0 =>
      rw [hat] at ha
      cases ha
      cases hok <;> exact absurd hg (Nat.lt_irrefl _)
    | viewGone _ _ _ _ _ ha h0 =>
      rw [hat] at ha
      cases ha
      cases hok
  | agg cs ps hl hc ih =>
    intro μ w M hi hM x hx
    cases hx with
    | agg xs _ k1 k2 k3 =>
      refine .agg xs ps (by rw [k1, hl]) (fun j y p hy hp => ?_) k3
      have hj2 : j < cs.length := by rw [hl]; exact get_lt hp
      exact ih j _ p (List.getElem?_eq_getElem hj2) hp μ w M hi hM y (k2 j y _ hy (List.getElem?_eq_getElem hj2))
  | tup cs ps hl hc ih =>
    intro μ w M hi hM x hx
    cases hx with
    | tup xs _ k1 k2 =>
      refine .tup xs ps (by rw [k1, hl]) (fun j y p hy hp => ?_)
      have hj2 : j < cs.length := by rw [hl]; exact get_lt hp
      exact ih j _ p (List.getElem?_eq_getElem hj2) hp μ w M hi hM y (k2 j y _ hy (List.getElem?_eq_getElem hj2))

theorem pureF_fresh {f : Nat} {ps : List PV} {R : PV} (h : CallVC P f (ps.map .p) [] [] fun r b l => LendF l r R) : AD.pureF P f (ps.map .p) (.p R) := by
  intro H μ w xs hi hx
  refine Calls.mono' (h.out [] w xs (inv_nil w) (nil_args hx)) fun e w' hw => ?_
  obtain ⟨v, r, μ', ba', lo', rfl, g2, g3, g4, g5, g6⟩ := hw
  have hba : ba' = [] := List.length_eq_zero_iff.1 (by simpa using g5)
  subst hba
  have hnew : ∀ b, b < w.heap.size → ¬ blocks μ' b ∧ w'.heap[b]? = w.heap[b]? := fun b hb => g4.stays.2 b hb fun ⟨i, m, h, _⟩ => by simp at h
  have hv : VP (blocks μ) w' v R := g6.close μ' w' (blocks μ) g3 (fun b hb hc => (hnew b (hi.lt hc)).1 hb) v g2
  exact ⟨v, _, _, μ, rfl, ⟨rfl, rfl⟩, hi.kept g4.stays.1 fun b hb => (hnew b hb).2, .p _ _ hv, g4.os, g4.tape, g4.output, .refl μ, g4.stays.1, fun b hb hm => ⟨hm, (hnew b hb).2⟩⟩

/-! ### a list that is nil yet, behind a call -/
theorem Inv.ghost {μ : List MI} {w : World} {ba lo : List Ob} (hi : Inv μ w ba lo) (m j sz : Nat) {cs : List AV} (h1 : lo[m]? = some (.cells cs)) (h2 : cs[j]? = some (.p .nils)) :
    Stays (blocks μ) w (blocks (μ ++ [.buf none 0 0])) w ∧ Above μ (μ ++ [.buf none 0 0]) ∧ Inv (μ ++ [.buf none 0 0]) w ba (lo.set m (.cells (cs.set j (.view (.l lo.length) 0 sz 0))) ++ [.buf 0 sz []]) := by
  have hblk : ∀ b, blocks (μ ++ [.buf none 0 0]) b → blocks μ b := by
    rintro b ⟨i, m', hm, hb⟩
    rcases Nat.lt_or_ge i μ.length with hl | hl
    · rw [List.getElem?_append_left hl] at hm; exact ⟨i, m', hm, hb⟩
    · rw [List.getElem?_append_right hl] at hm
      have : i - μ.length = 0 := by have := get_lt hm; simp at this; omega
      rw [this] at hm
      cases hm
      cases hb
  have hst : Stays (blocks μ) w (blocks (μ ++ [.buf none 0 0])) w := ⟨Nat.le_refl _, fun b _ hb => ⟨fun hc => hb (hblk b hc), rfl⟩⟩
  have hab : Above μ (μ ++ [.buf none 0 0]) := fun i m' hm => ⟨m', by rw [List.getElem?_append_left (get_lt hm)]; exact hm, .refl _⟩
  have hle : ba.length ≤ μ.length := by rw [hi.len]; omega
  have htk : (μ ++ [MI.buf none 0 0]).take ba.length = μ.take ba.length := List.take_append_of_le_length hle
  have obm : ∀ {m : MI} {o : Ob} {μ1 μ2 : List MI}, Above μ1 μ2 → ObOk ⟨blocks μ, ba.length, μ1⟩ w m o → ObOk ⟨blocks (μ ++ [.buf none 0 0]), ba.length, μ2⟩ w m o := fun ha ho => ho.mono hst ha fun b _ => rfl
  have hml := get_lt h1
  have hi2 : Inv (μ ++ [.buf none 0 0]) w ba (lo.set m (.cells (cs.set j (.view (.l lo.length) 0 sz 0))) ++ [.buf 0 sz []]) := by
    refine ⟨by simp [hi.len]; omega, fun a c m1 m2 b g1 g2 g3 g4 => ?_, fun i o ho => ?_, fun k o ho => ?_⟩
    · have lt : ∀ {a : Nat} {m1 : MI}, (μ ++ [.buf none 0 0])[a]? = some m1 → m1.block? = some b → μ[a]? = some m1 := fun {a m1} g1 g3 => by
        rcases Nat.lt_or_ge a μ.length with hl | hl
        · rwa [List.getElem?_append_left hl] at g1
        · rw [List.getElem?_append_right hl] at g1
          have : a - μ.length = 0 := by have := get_lt g1; simp at this; omega
          rw [this] at g1
          cases g1
          cases g3
      exact hi.apart a c m1 m2 b (lt g1 g3) (lt g2 g4) g3 g4
    · obtain ⟨m1, g1, g2⟩ := hi.bases i o ho
      refine ⟨m1, by rw [List.getElem?_append_left (get_lt g1)]; exact g1, ?_⟩
      rw [htk]
      exact obm (.refl _) g2
    · rcases Nat.lt_or_ge k lo.length with hk | hk
      · rw [List.getElem?_append_left (by simpa using hk), List.getElem?_set] at ho
        by_cases hkm : m = k
        · subst hkm
          rw [if_pos rfl, if_pos hml] at ho
          cases ho
          obtain ⟨m1, g1, g2⟩ := hi.locs m _ h1
          refine ⟨m1, by rw [List.getElem?_append_left (get_lt g1)]; exact g1, ?_⟩
          cases obm hab g2 with
          | cells b ys t _ k1 k2 k3 =>
            refine .cells b ys t _ k1 (by simpa using k2) fun i x c hx hc => ?_
            rw [List.getElem?_set] at hc
            by_cases hij : j = i
            · subst hij
              rw [if_pos rfl, if_pos (get_lt h2)] at hc
              cases hc
              have hv := k3 j x _ hx h2
              refine ⟨?_, hv.2⟩
              have hx0 : x = .slice none 0 0 := by
                have := hv.1.pv
                cases this; rfl
              rw [hx0]
              exact .view0 _ _ _ 0 (by simp only [Ctx.at]; rw [← hi.len, List.getElem?_append_right (Nat.le_refl _), Nat.sub_self]; rfl)
            · rw [if_neg hij] at hc
              exact k3 i x c hx hc
        · rw [if_neg hkm] at ho
          obtain ⟨m1, g1, g2⟩ := hi.locs k o ho
          exact ⟨m1, by rw [List.getElem?_append_left (get_lt g1)]; exact g1, obm hab g2⟩
      · rw [List.getElem?_append_right (by simpa using hk)] at ho
        have hk2 : k = lo.length := by have := get_lt ho; simp at this; omega
        subst hk2
        simp at ho
        subst ho
        exact ⟨.buf none 0 0, by rw [← hi.len, List.getElem?_append_right (Nat.le_refl _), Nat.sub_self]; rfl, .buf0 _ _ _⟩
  exact ⟨hst, hab, hi2⟩

theorem CallVC.ghostP {f : Nat} {args : List AV} {ba lo : List Ob} {K : AV → List Ob → List Ob → Prop} (m j sz : Nat)
    (h : CallVC P f args ba lo fun r b l => ∃ cs, l[m]? = some (.cells cs) ∧ cs[j]? = some (.p .nils) ∧ K r b (l.set m (.cells (cs.set j (.view (.l l.length) 0 sz 0))) ++ [.buf 0 sz []])) : CallVC P f args ba lo K := by
  refine ⟨fun μ w xs hi hx => (h.out μ w xs hi hx).mono fun e w' hw => ?_⟩
  obtain ⟨v, r, μ', ba', lo', g1, g2, g3, g4, g5, cs, h1, h2, hk⟩ := hw
  obtain ⟨hst, hab, hi2⟩ := g3.ghost m j sz h1 h2
  rw [g5.symm] at g2
  have g2' : VA ⟨blocks (μ' ++ [.buf none 0 0]), ba.length, μ' ++ [.buf none 0 0]⟩ w' v r := by rw [← g5]; exact g2.mono hst hab
  exact ⟨v, r, _, ba', _, g1, g2', hi2, ⟨g4.os, g4.tape, g4.output, g4.above.trans hab, g4.stays.trans hst⟩, g5, hk⟩

theorem CallVC.args {f : Nat} {vs bs : List AV} {ba lo : List Ob} {K : AV → List Ob → List Ob → Prop} (h : CallVC P f bs ba lo K) (hl : AVles vs bs) : CallVC P f vs ba lo K := by
  obtain ⟨h1, h2⟩ := hl.out
  refine ⟨fun μ w xs hi hx => h.out μ w xs hi ⟨by rw [hx.1, h1], fun j x b hj hb => ?_⟩⟩
  obtain ⟨a, ha, hv⟩ := h2 j b hb
  exact hv _ _ _ (hx.2 j x a hj ha)

end
end Go.Proofs.YtgdimfogijfmiaaDoor.AD

namespace Go.Proofs.YtgdimfogijfmiaaDoor.AD
set_option linter.unusedVariables false
set_option linter.unusedSimpArgs false
set_option linter.unusedSectionVars false
section
variable {P : Program}

def rb (g : Nat → Nat) : Rf → Rf
  | .b i => .b (g i)
  | .l k => .l k
def pmM (N : Nat) (gi : Nat → Nat) (μ : List MI) : List MI := (List.range N).map fun j => μ.getD (gi j) .gone
def pmO (N : Nat) (g gi : Nat → Nat) (H : List Ob) : List Ob := (List.range N).map fun j => (H.getD (gi j) .gone).ren (rb g)

theorem rng_get {α : Type} (N : Nat) (f : Nat → α) (j : Nat) : ((List.range N).map f)[j]? = if j < N then some (f j) else none := by
  rw [List.getElem?_map]
  by_cases h : j < N
  · rw [if_pos h, List.getElem?_range h]; rfl
  · rw [if_neg h, List.getElem?_eq_none (by simp; omega)]; rfl

section
variable {N : Nat} {g gi : Nat → Nat} (h1 : ∀ i, gi (g i) = i) (h2 : ∀ i, g (gi i) = i) (hN : ∀ i, i < N → gi i < N) (hN' : ∀ i, i < N → g i < N)
include h1 h2 hN hN'

theorem pmM_get {μ : List MI} (hl : μ.length = N) (j : Nat) (m : MI) : (pmM N gi μ)[j]? = some m ↔ j < N ∧ μ[gi j]? = some m := by
  unfold pmM
  rw [rng_get]
  by_cases h : j < N
  · have h3 : gi j < μ.length := by rw [hl]; exact hN j h
    simp [h, List.getD, h3]
  · simp [h]
theorem pmM_blocks {μ : List MI} (hl : μ.length = N) (b : Nat) : blocks (pmM N gi μ) b ↔ blocks μ b := by
  constructor
  · rintro ⟨i, m, a1, a2⟩
    exact ⟨_, m, ((pmM_get h1 h2 hN hN' hl i m).1 a1).2, a2⟩
  · rintro ⟨i, m, a1, a2⟩
    have hi : i < N := by rw [← hl]; exact get_lt a1
    exact ⟨g i, m, (pmM_get h1 h2 hN hN' hl _ m).2 ⟨hN' i hi, by rw [h1]; exact a1⟩, a2⟩
theorem pm_at {μ : List MI} (hl : μ.length = N) (r : Rf) (m : MI) (h : Ctx.at ⟨blocks μ, N, μ⟩ r = some m) : Ctx.at ⟨blocks (pmM N gi μ), N, pmM N gi μ⟩ (rb g r) = some m := by
  cases r with
  | l k =>
    simp only [Ctx.at] at h
    have := get_lt h
    omega
  | b i =>
    simp only [Ctx.at, rb] at h ⊢
    split at h
    · rename_i hi
      rw [if_pos (hN' i hi)]
      exact (pmM_get h1 h2 hN hN' hl _ m).2 ⟨hN' i hi, by rw [h1]; exact h⟩
    · cases h
theorem pm_va {μ : List MI} {w : World} (hl : μ.length = N) {v : Value} {a : AV} (h : VA ⟨blocks μ, N, μ⟩ w v a) : VA ⟨blocks (pmM N gi μ), N, pmM N gi μ⟩ w v (a.ren (rb g)) :=
  h.ren (fun b hb hc => hb ((pmM_blocks h1 h2 hN hN' hl b).1 hc)) (pm_at h1 h2 hN hN' hl)
theorem pm_inv {μ : List MI} {w : World} {H : List Ob} (hi : Inv μ w H []) (hH : H.length = N) : Inv (pmM N gi μ) w (pmO N g gi H) [] := by
  have hl : μ.length = N := by have := hi.len; simp at this; omega
  have hlo : (pmO N g gi H).length = N := by simp [pmO]
  refine ⟨by rw [hlo]; simp [pmM], fun i j m m' b a1 a2 a3 a4 => ?_, fun j o ho => ?_, fun k o ho => by simp at ho⟩
  · have q1 := (pmM_get h1 h2 hN hN' hl i m).1 a1
    have q2 := (pmM_get h1 h2 hN hN' hl j m').1 a2
    have := hi.apart _ _ m m' b q1.2 q2.2 a3 a4
    rw [← h2 i, this, h2]
  · unfold pmO at ho
    rw [rng_get] at ho
    split at ho
    · rename_i hj
      have hlt : gi j < H.length := by rw [hH]; exact hN j hj
      obtain ⟨m, q1, q2⟩ := hi.bases (gi j) H[gi j] (List.getElem?_eq_getElem hlt)
      refine ⟨m, (pmM_get h1 h2 hN hN' hl j m).2 ⟨hj, q1⟩, ?_⟩
      have ho := Option.some.inj ho
      rw [← ho, hlo, List.take_of_length_le (by simp [pmM])]
      have e : H.getD (gi j) .gone = H[gi j] := by simp [List.getD, hlt]
      rw [e]
      rw [hH, List.take_of_length_le (by omega)] at q2
      exact q2.ren (fun b hb hc => hb ((pmM_blocks h1 h2 hN hN' hl b).1 hc)) (pm_at h1 h2 hN hN' hl)
    · cases ho
theorem pm_back (μ : List MI) (hl : μ.length = N) : pmM N g (pmM N gi μ) = μ := by
  apply List.ext_getElem?
  intro i
  unfold pmM
  rw [rng_get]
  by_cases h : i < N
  · have h3 : g i < N := hN' i h
    have h4 : i < μ.length := by omega
    have := rng_get N (fun j => μ.getD (gi j) .gone) (g i)
    rw [if_pos h3] at this
    rw [if_pos h, List.getD_eq_getElem?_getD, this]
    simp [h1, List.getD, h4]
  · rw [if_neg h, List.getElem?_eq_none (by omega)]
theorem pm_le {ν ν' : List MI} {w w' : World} (hl : ν.length = N) (hl' : ν'.length = N) (h : Le ν w ν' w') : Le (pmM N gi ν) w (pmM N gi ν') w' := by
  refine ⟨h.os, h.tape, h.output, fun i m hm => ?_, h.stays.1, fun b hb hm => ?_⟩
  · obtain ⟨q1, q2⟩ := (pmM_get h1 h2 hN hN' hl i m).1 hm
    obtain ⟨m', q3, q4⟩ := h.above _ m q2
    exact ⟨m', (pmM_get h1 h2 hN hN' hl' i m').2 ⟨q1, q3⟩, q4⟩
  · obtain ⟨q1, q2⟩ := h.stays.2 b hb fun hc => hm ((pmM_blocks h1 h2 hN hN' hl b).2 hc)
    exact ⟨fun hc => q1 ((pmM_blocks h1 h2 hN hN' hl' b).1 hc), q2⟩
end

/-- WHAT IS SHOWN OF OBJECTS IN ONE ORDER HOLDS IN ANOTHER. -/
theorem perm_in {N : Nat} {g gi : Nat → Nat} (h1 : ∀ i, gi (g i) = i) (h2 : ∀ i, g (gi i) = i) (hN : ∀ i, i < N → gi i < N) (hN' : ∀ i, i < N → g i < N) {μ : List MI} {w : World} {H : List Ob} (hi : Inv μ w H []) (hH : H.length = N) :
    ∃ ν, Inv ν w (pmO N g gi H) [] ∧ (∀ v a, VA ⟨blocks μ, N, μ⟩ w v a → VA ⟨blocks ν, N, ν⟩ w v (a.ren (rb g))) ∧
      ∀ ν' w' H1, Inv ν' w' H1 [] → H1.length = N → Le ν w ν' w' → ∃ μ', Inv μ' w' (pmO N gi g H1) [] ∧ Le μ w μ' w' ∧ ∀ v a, VA ⟨blocks ν', N, ν'⟩ w' v a → VA ⟨blocks μ', N, μ'⟩ w' v (a.ren (rb gi)) := by
  have hl : μ.length = N := by have := hi.len; simp at this; omega
  refine ⟨pmM N gi μ, pm_inv h1 h2 hN hN' hi hH, fun v a h => pm_va h1 h2 hN hN' hl h, fun ν' w' H1 hi1 hl1 hle => ?_⟩
  have hl' : ν'.length = N := by have := hi1.len; simp at this; omega
  refine ⟨pmM N g ν', pm_inv h2 h1 hN' hN hi1 hl1, ?_, fun v a h => pm_va h2 h1 hN' hN hl' h⟩
  have := pm_le h2 h1 hN' hN (by simp [pmM]) hl' hle
  rwa [pm_back h1 h2 hN hN' μ hl] at this

/-! ### some in the middle are brought to the front -/
def rotG (p k : Nat) (i : Nat) : Nat := if i < p then i + k else if i < p + k then i - p else i
def rotI (p k : Nat) (j : Nat) : Nat := if j < k then j + p else if j < p + k then j - k else j
theorem rot1 (p k i : Nat) : rotI p k (rotG p k i) = i := by
  unfold rotI rotG
  repeat' split
  all_goals omega
theorem rot2 (p k i : Nat) : rotG p k (rotI p k i) = i := by
  unfold rotI rotG
  repeat' split
  all_goals omega

mutual
theorem ren_ren (g h : Rf → Rf) (e : ∀ r, h (g r) = r) : ∀ a : AV, (a.ren g).ren h = a
  | .p v => by rw [AV.ren, AV.ren]
  | .ref r o => by rw [AV.ren, AV.ren, e]
  | .view r a sz len => by rw [AV.ren, AV.ren, e]
  | .elt r a sz i o => by rw [AV.ren, AV.ren, e]
  | .mapr r => by rw [AV.ren, AV.ren, e]
  | .tail r a sz o len => by rw [AV.ren, AV.ren, e]
  | .clos f as bs => by rw [AV.ren, AV.ren, rens_rens g h e as, rens_rens g h e bs]
  | .agg cs => by rw [AV.ren, AV.ren, rens_rens g h e cs]
  | .tup cs => by rw [AV.ren, AV.ren, rens_rens g h e cs]
theorem rens_rens (g h : Rf → Rf) (e : ∀ r, h (g r) = r) : ∀ l : List AV, AV.rens h (AV.rens g l) = l
  | [] => by rw [AV.rens, AV.rens]
  | a :: r => by rw [AV.rens, AV.rens, ren_ren g h e a, rens_rens g h e r]
end
theorem obren_ren (g h : Rf → Rf) (e : ∀ r, h (g r) = r) (o : Ob) : (o.ren g).ren h = o := by
  cases o with
  | cells cs => simp only [Ob.ren, rens_rens g h e]
  | loop l r ks cs st => simp only [Ob.ren, rens_rens g h e]
  | mapA ks cs => simp only [Ob.ren, rens_rens g h e]
  | bufA a cs => simp only [Ob.ren, rens_rens g h e]
  | _ => rfl
theorem rb_rb {g gi : Nat → Nat} (h1 : ∀ i, gi (g i) = i) (r : Rf) : rb gi (rb g r) = r := by cases r <;> simp [rb, h1]

/-- Nothing but values in it. -/
def allPb : List AV → Bool
  | [] => true
  | .p _ :: r => allPb r
  | _ => false
def Ob.noRef : Ob → Bool
  | .cells cs => allPb cs
  | .buf _ _ _ => true
  | .map _ => true
  | .gone => true
  | .loop _ _ _ _ _ => false
  | .mapA _ cs => allPb cs
  | .bufA _ cs => allPb cs
theorem allP_ren (g : Rf → Rf) : ∀ l, allPb l = true → AV.rens g l = l
  | [], _ => by rw [AV.rens]
  | a :: r, h => by
    cases a with
    | p v => rw [AV.rens, AV.ren, allP_ren g r h]
    | _ => cases h
theorem allP_close (n : Nat) : ∀ l, allPb l = true → AV.closes n l = l
  | [], _ => by rw [AV.closes]
  | a :: r, h => by
    cases a with
    | p v => rw [AV.closes, AV.close, allP_close n r h]
    | _ => cases h
theorem allP_mem : ∀ l, allPb l = true → ∀ a, a ∈ l → ∃ v, a = .p v
  | [], _, a, h => by cases h
  | x :: r, h, a, ha => by
    cases x with
    | p v =>
      cases ha with
      | head => exact ⟨v, rfl⟩
      | tail _ ha => exact allP_mem r h a ha
    | _ => cases h
theorem noRef_ren (g : Rf → Rf) {o : Ob} (h : o.noRef = true) : o.ren g = o := by
  cases o with
  | cells cs => simp only [Ob.ren]; rw [allP_ren g cs h]
  | mapA ks cs => simp only [Ob.ren]; rw [allP_ren g cs h]
  | bufA a cs => simp only [Ob.ren]; rw [allP_ren g cs h]
  | loop => cases h
  | _ => rfl
theorem noRef_close (n : Nat) {o : Ob} (h : o.noRef = true) : o.close n = o := by
  cases o with
  | cells cs => simp only [Ob.close]; rw [allP_close n cs h]
  | mapA ks cs => simp only [Ob.close]; rw [allP_close n cs h]
  | bufA a cs => simp only [Ob.close]; rw [allP_close n cs h]
  | loop => cases h
  | _ => rfl
theorem noRef_low (n : Nat) {o : Ob} (h : o.noRef = true) : o.Low n := by
  cases o with
  | cells cs =>
    intro a ha
    obtain ⟨v, rfl⟩ := allP_mem cs h a ha
    exact .p _
  | mapA ks cs =>
    intro a ha
    obtain ⟨v, rfl⟩ := allP_mem cs h a ha
    exact .p _
  | bufA g cs =>
    intro a ha
    obtain ⟨v, rfl⟩ := allP_mem cs h a ha
    exact .p _
  | loop => cases h
  | _ => trivial

/-- The method of an own object, called by what leads to it. -/
def shB (i : Nat) : Rf → Rf
  | .b j => .l (i + j)
  | .l k => .l k
theorem clB_at (n i k : Nat) : ∀ {a : AV}, a.clB k = true → ((a.ren (shB i)).close n).ren (rb (rotG (n + i) k)) = a
  | .p v, h => by rw [AV.ren, AV.close, AV.ren]
  | .ref (.b j) o, h => by
    have hj : j < k := blt_lt (by simpa [AV.clB] using h)
    simp only [AV.ren, shB, AV.close, Rf.close, rb, rotG]
    rw [if_neg (by omega), if_pos (by omega), show n + (i + j) - (n + i) = j by omega]
  | .view (.b j) g sz len, h => by
    have hj : j < k := blt_lt (by simpa [AV.clB] using h)
    simp only [AV.ren, shB, AV.close, Rf.close, rb, rotG]
    rw [if_neg (by omega), if_pos (by omega), show n + (i + j) - (n + i) = j by omega]
  | .ref (.l j) o, h => by cases h
  | .view (.l j) g sz len, h => by cases h
  | .elt (.b j) g sz a b, h => by
    have hj : j < k := blt_lt (by simpa [AV.clB] using h)
    simp only [AV.ren, shB, AV.close, Rf.close, rb, rotG]
    rw [if_neg (by omega), if_pos (by omega), show n + (i + j) - (n + i) = j by omega]
  | .mapr (.b j), h => by
    have hj : j < k := blt_lt (by simpa [AV.clB] using h)
    simp only [AV.ren, shB, AV.close, Rf.close, rb, rotG]
    rw [if_neg (by omega), if_pos (by omega), show n + (i + j) - (n + i) = j by omega]
  | .tail (.b j) g sz a b, h => by
    have hj : j < k := blt_lt (by simpa [AV.clB] using h)
    simp only [AV.ren, shB, AV.close, Rf.close, rb, rotG]
    rw [if_neg (by omega), if_pos (by omega), show n + (i + j) - (n + i) = j by omega]
  | .tail (.l j) g sz a b, h => by cases h
  | .elt (.l j) g sz a b, h => by cases h
  | .mapr (.l j), h => by cases h
  | .clos f as bs, h => by cases h
  | .agg cs, h => by cases h
  | .tup cs, h => by cases h
theorem avsCl_at (n i k : Nat) : ∀ {l : List AV}, avsCl k l = true → AV.rens (rb (rotG (n + i) k)) (AV.closes n (AV.rens (shB i) l)) = l
  | [], _ => by rw [AV.rens, AV.closes, AV.rens]
  | a :: r, h => by
    simp only [avsCl, Bool.and_eq_true] at h
    rw [AV.rens, AV.closes, AV.rens, clB_at n i k h.1, avsCl_at n i k h.2]

/-- As the objects lie behind the turn. -/
theorem pmO_rot {X Y Z : List Ob} (hY : ∀ o, o ∈ Y → o.noRef = true) : pmO (X ++ Y ++ Z).length (rotG X.length Y.length) (rotI X.length Y.length) (X ++ Y ++ Z) = Y ++ (X ++ Z).map (Ob.ren (rb (rotG X.length Y.length))) := by
  apply List.ext_getElem?
  intro j
  unfold pmO
  rw [rng_get]
  by_cases h : j < (X ++ Y ++ Z).length
  · rw [if_pos h]
    simp only [List.length_append] at h
    have key : ∀ (o : Ob), (X ++ Y ++ Z)[rotI X.length Y.length j]? = some o → (Y ++ (X ++ Z).map (Ob.ren (rb (rotG X.length Y.length))))[j]? = some (o.ren (rb (rotG X.length Y.length))) := fun o ho => by
      unfold rotI at ho
      split at ho
      · rename_i h3
        rw [List.getElem?_append_left (by simp; omega), List.getElem?_append_right (by omega), Nat.add_sub_cancel] at ho
        rw [List.getElem?_append_left h3, ho, noRef_ren _ (hY o (List.mem_of_getElem? ho))]
      · rename_i h3
        rw [List.getElem?_append_right (by omega), List.getElem?_map]
        split at ho
        · rename_i h4
          rw [List.append_assoc, List.getElem?_append_left (by omega)] at ho
          rw [List.getElem?_append_left (by omega), ho]; rfl
        · rename_i h4
          rw [List.getElem?_append_right (by simp; omega)] at ho
          rw [List.getElem?_append_right (by omega), show j - Y.length - X.length = j - (X ++ Y).length by simp; omega, ho]; rfl
    have hlt : rotI X.length Y.length j < (X ++ Y ++ Z).length := by
      unfold rotI
      simp only [List.length_append]
      repeat' split
      all_goals omega
    have := key _ (List.getElem?_eq_getElem hlt)
    rw [this, List.getD_eq_getElem?_getD, List.getElem?_eq_getElem hlt]; rfl
  · rw [if_neg h, List.getElem?_eq_none]
    simp only [List.length_append, List.length_map] at h ⊢
    omega
theorem pmO_back {X Y Z : List Ob} (hY : ∀ o, o ∈ Y → o.noRef = true) : pmO (X ++ Y ++ Z).length (rotI X.length Y.length) (rotG X.length Y.length) (Y ++ (X ++ Z).map (Ob.ren (rb (rotG X.length Y.length)))) = X ++ Y ++ Z := by
  have e := pmO_rot (X := X) (Y := Y) (Z := Z) hY
  rw [← e]
  apply List.ext_getElem?
  intro j
  unfold pmO
  rw [rng_get]
  by_cases h : j < (X ++ Y ++ Z).length
  · rw [if_pos h]
    have h3 : rotG X.length Y.length j < (X ++ Y ++ Z).length := by
      simp only [List.length_append] at h ⊢
      unfold rotG
      repeat' split
      all_goals omega
    have := rng_get (X ++ Y ++ Z).length (fun j => ((X ++ Y ++ Z).getD (rotI X.length Y.length j) .gone).ren (rb (rotG X.length Y.length))) (rotG X.length Y.length j)
    rw [if_pos h3] at this
    rw [List.getD_eq_getElem?_getD, this]
    simp only [Option.getD_some, rot1]
    rw [obren_ren _ _ (rb_rb (rot1 _ _)), List.getD_eq_getElem?_getD, List.getElem?_eq_getElem h]
    rfl
  · rw [if_neg h, List.getElem?_eq_none (by omega)]

/-- The method of own objects, whatever elder ones there are. -/
theorem CallVC.methF {f : Nat} {args args0 : List AV} {ba lo os os' : List Ob} {K : AV → List Ob → List Ob → Prop} {r : PV} (lo1 lo2 : List Ob) (h : Meth P f args0 os r os') (hlo : lo = lo1 ++ os ++ lo2)
    (ha : AV.rens (shB lo1.length) args0 = args) (hc : avsCl os.length args0 = true) (n1 : os.all Ob.noRef = true) (n2 : os'.all Ob.noRef = true) (hl : os'.length = os.length) (k : K (.p r) ba (lo1 ++ os' ++ lo2)) : CallVC P f args ba lo K := by
  subst hlo; subst ha
  have m1 : ∀ o, o ∈ os → o.noRef = true := fun o ho => List.all_eq_true.1 n1 o ho
  have m2 : ∀ o, o ∈ os' → o.noRef = true := fun o ho => List.all_eq_true.1 n2 o ho
  have c1 : os.map (Ob.close ba.length) = os := by
    conv => rhs; rw [← List.map_id os]
    exact List.map_congr_left fun o ho => noRef_close _ (m1 o ho)
  have c2 : os'.map (Ob.close ba.length) = os' := by
    conv => rhs; rw [← List.map_id os']
    exact List.map_congr_left fun o ho => noRef_close _ (m2 o ho)
  refine CallX.to ⟨?_⟩
  generalize hX : ba ++ lo1.map (Ob.close ba.length) = X
  generalize hZ : lo2.map (Ob.close ba.length) = Z
  have hXl : X.length = ba.length + lo1.length := by rw [← hX]; simp
  have ef : flat ba (lo1 ++ os ++ lo2) = X ++ os ++ Z := by
    rw [flat, List.map_append, List.map_append, c1, hZ, ← hX]; simp [List.append_assoc]
  have ef' : flat ba (lo1 ++ os' ++ lo2) = X ++ os' ++ Z := by
    rw [flat, List.map_append, List.map_append, c2, hZ, ← hX]; simp [List.append_assoc]
  rw [ef]
  intro μ w xs hi hx
  have bnd1 : ∀ i, i < (X ++ os ++ Z).length → rotI X.length os.length i < (X ++ os ++ Z).length := fun i hi => by
    simp only [List.length_append] at hi ⊢
    unfold rotI
    repeat' split
    all_goals omega
  have bnd2 : ∀ i, i < (X ++ os ++ Z).length → rotG X.length os.length i < (X ++ os ++ Z).length := fun i hi => by
    simp only [List.length_append] at hi ⊢
    unfold rotG
    repeat' split
    all_goals omega
  obtain ⟨ν, i1, i2, i3⟩ := perm_in (rot1 X.length os.length) (rot2 X.length os.length) bnd1 bnd2 hi rfl
  rw [pmO_rot m1] at i1
  have hlen : (os ++ (X ++ Z).map (Ob.ren (rb (rotG X.length os.length)))).length = (X ++ os ++ Z).length := by simp; omega
  refine (h _ ν w xs i1 ⟨?_, fun j x a hj haj => ?_⟩).mono fun e w' hw => ?_
  · have := hx.1
    rw [closes_length, rens_length] at this
    exact this
  · rw [hlen]
    have hcl : (AV.closes ba.length (AV.rens (shB lo1.length) args0))[j]? = some ((a.ren (shB lo1.length)).close ba.length) := by rw [closes_get, rens_get, haj]; rfl
    have := i2 x _ (hx.2 j x _ hj hcl)
    have hal := avsCl_at ba.length lo1.length os.length hc
    have hja : (AV.rens (rb (rotG (ba.length + lo1.length) os.length)) (AV.closes ba.length (AV.rens (shB lo1.length) args0)))[j]? = some (((a.ren (shB lo1.length)).close ba.length).ren (rb (rotG (ba.length + lo1.length) os.length))) := by rw [rens_get, hcl]; rfl
    rw [hal, haj] at hja
    have hja := Option.some.inj hja
    rw [hXl, ← hja] at this
    exact this
  · obtain ⟨v, r', H', ν', he, ⟨rfl, rfl⟩, g3, g4, g5⟩ := hw
    have hl1 : (os' ++ (X ++ Z).map (Ob.ren (rb (rotG X.length os.length)))).length = (X ++ os ++ Z).length := by simp; omega
    obtain ⟨μ', k1, k2, k3⟩ := i3 ν' w' _ g3 hl1 g5
    have hll : (X ++ os ++ Z).length = (X ++ os' ++ Z).length := by simp [hl]
    rw [hll, ← hl, pmO_back m2] at k1
    refine ⟨v, .p r, X ++ os' ++ Z, μ', he, ⟨.p r, ba, lo1 ++ os' ++ lo2, by rw [AV.close], .p _, by rw [← ef', flat], rfl, fun o ho => .inl ho, fun o ho => ?_, k⟩, k1, ?_, k2⟩
    · simp only [List.mem_append] at ho ⊢
      rcases ho with (ho | ho) | ho
      · exact .inl (.inl (.inl ho))
      · exact .inr (noRef_low _ (m2 o ho))
      · exact .inl (.inr ho)
    · have := k3 v (.p r) (by rw [← hl1]; exact g4)
      rw [AV.ren, hll] at this
      exact this

end
end Go.Proofs.YtgdimfogijfmiaaDoor.AD

namespace Go.Proofs.YtgdimfogijfmiaaDoor.AD
set_option linter.unusedVariables false
set_option linter.unusedSimpArgs false
set_option linter.unusedSectionVars false
section
variable {P : Program}

theorem leaves_marksP {F : Fence} {n : Nat} {fn : Func} {tmps : Array Value} {R : Ending → World → Prop} {ch : List PanicEntry} : ∀ (Ds : List Nat) {w : World}, Ds.Nodup → (∀ D, D ∈ Ds → w.heap[D]? = some (.deferred (some []))) → R (.panicked ch) (shutAll Ds w) →
    LeavesInM F n P fn tmps R (Ds.map fun D => { target := .collected D, args := #[] }) (.panicking ch) w
  | [], w, _, _, h => h
  | D :: r, w, hn, hD, h => by
    obtain ⟨n1, n2⟩ := List.nodup_cons.1 hn
    refine ⟨by simp, .inl ⟨D, _, rfl, run_takeDeferred (hD D (by simp)), leaves_marksP r n2 (fun D' hD' => ?_) h⟩⟩
    exact (World.putObj_heap_other fun (e : D' = D) => n1 (e ▸ hD')).trans (hD D' (by simp [hD']))

/-- What is to be shown of a call in its caller's own place. -/
def endPI (f : IF) (K : AV → List Ob → List Ob → Prop) (X : XV) : Exit → FR → List Ob → List Ob → Prop
  | .ret, fr, ba, lo => resI fr ba lo f.res K
  | .normal, fr, ba, lo => resI fr ba lo f.res K
  | .panic ch, fr, ba, lo => X ch ba lo
  | _, _, _, _ => False

theorem CallPV.inline {own : List Nat} {f : Nat} {ir : IF} {args : List AV} {ba lo : List Ob} {K : AV → List Ob → List Ob → Prop} {X : XV} (hc : compF P own f = some ir.bare) (h : bif Nat.beq args.length ir.params then W P ir.body (frameOf 0 args) ba lo (endPI ir K X) else False) : CallPV P f args ba lo K X := by
  refine ⟨fun μ w xs hi hx => ?_⟩
  unfold compF at hc
  split at hc
  · cases hc
  · rename_i fn hfn
    split at hc
    · cases hc
    · rename_i c hbody
      split at hc
      · rename_i ic rs hic hrs
        split at hc
        · rename_i hcond
          obtain ⟨hpar, _, hm⟩ := hcond
          have hc := Option.some.inj hc
          have e1 : ic = ir.body.bare := congrArg IF.body hc
          have e2 : rs = ir.res := congrArg IF.res hc
          have e3 : fn.params.size + fn.nfree = ir.params := congrArg IF.params hc
          subst e1
          subst e2
          cases hb : Nat.beq args.length ir.params with
          | false => rw [hb] at h; exact h.elim
          | true =>
            rw [hb] at h
            have hlen : args.length = ir.params := Nat.eq_of_beq_eq_true hb
            have h : W P ir.body (frameOf 0 args) ba lo (endPI ir K X) := h
            have hsz : xs.size = args.length := hx.1
            have hrel : Rel fn.ntmps w.heap.size [] μ w { tmps := xs ++ Array.replicate (fn.ntmps - xs.size) undef, defers := [] } (frameOf 0 args) ba lo := by
              refine ⟨hi, by simp; omega, Nat.le_refl _, .nil, fun t => ?_⟩
              rw [frameOf_get, if_pos (Nat.zero_le _), Nat.sub_zero]
              simp only [Array.getD_eq_getD_getElem?]
              rcases Nat.lt_or_ge t args.length with ht | ht
              · rw [Array.getElem?_append_left (by omega), Array.getElem?_eq_getElem (by omega), List.getElem?_eq_getElem ht]
                exact hx.2 t _ _ (Array.getElem?_eq_getElem (by omega)) (List.getElem?_eq_getElem ht)
              · rw [List.getElem?_eq_none (by omega)]
                exact .p _ _ (.undef _)
            refine callsIn_wide.1 (callsIn_of_wp_marks (F := FW none) (n := 0) hfn hbody trivial (wpIn_mono (W_sound hm 0 ir.body c hic h hrel) fun e a' w' hp => ?_))
            obtain ⟨μ', fr', ba', lo', g1, g2, g3, g4⟩ := hp
            have fin : resI fr' ba' lo' ir.res K → LeavesInM (FW none) 0 P fn a'.tmps (fun e w' => (∃ v' r μ'' ba'' lo'', e = .returned v' ∧ VA ⟨blocks μ'', ba.length, μ''⟩ w' v' r ∧ Inv μ'' w' ba'' lo'' ∧ Le μ w μ'' w' ∧ ba''.length = ba.length ∧ K r ba'' lo'') ∨ ∃ ch μ'' ba'' lo'', e = .panicked ch ∧ Inv μ'' w' ba'' lo'' ∧ Le μ w μ'' w' ∧ ba''.length = ba.length ∧ X ch ba'' lo'') a'.defers .returning w' := fun g1 => by
              obtain ⟨Ds, d1, d2, d3⟩ := g2.defers
              rw [d1, List.append_nil]
              refine leaves_marks Ds d2 (fun D hD => (d3 D hD).2.2) ?_
              obtain ⟨q1, q2⟩ := Rel.shut (a := a') Ds d2 d3 ⟨g2.inv, g2.size, g2.base, .nil, g2.vals⟩ g3
              obtain ⟨v, r, k1, k2, k3⟩ := resI_out hrs g1 q1
              exact ⟨v, k1, .inl ⟨v, r, μ', ba', lo', rfl, by rw [← g4]; exact k3, q1.inv, q2, g4, k2⟩⟩
            cases e with
            | normal => exact fin g1
            | ret => exact fin g1
            | exit id => exact g1.elim
            | goto l => exact g1.elim
            | panic ch =>
              obtain ⟨Ds, d1, d2, d3⟩ := g2.defers
              show LeavesInM (FW none) 0 P fn a'.tmps _ a'.defers (.panicking ch) w'
              rw [d1, List.append_nil]
              obtain ⟨q1, q2⟩ := Rel.shut (a := a') Ds d2 d3 ⟨g2.inv, g2.size, g2.base, .nil, g2.vals⟩ g3
              exact leaves_marksP Ds d2 (fun D hD => (d3 D hD).2.2) (.inr ⟨ch, μ', ba', lo', rfl, q1.inv, q2, g4, g1⟩)
            | outgrown => exact g1.elim
        · cases hc
      · cases hc

/-- A call that may panic, from everybody's side. -/
def callP (P : Program) (f : FuncId) (args : List AV) (H : List Ob) (Q : AV → List Ob → Prop) (X : List PanicEntry → List Ob → Prop) : Prop :=
  ∀ (μ : List MI) (w : World) (xs : Array Value), Inv μ w H [] → VAs ⟨blocks μ, H.length, μ⟩ w xs args →
    Calls P f xs w fun e w' => (∃ (v : Value) (r : AV) (H' : List Ob) (μ' : List MI), e = .returned v ∧ Q r H' ∧ Inv μ' w' H' [] ∧ VA ⟨blocks μ', H'.length, μ'⟩ w' v r ∧ Le μ w μ' w') ∨
      ∃ (ch : List PanicEntry) (H' : List Ob) (μ' : List MI), e = .panicked ch ∧ X ch H' ∧ Inv μ' w' H' [] ∧ Le μ w μ' w'
def endPQ (f : IF) (Q : AV → List Ob → Prop) (X : List PanicEntry → List Ob → Prop) : Exit → FR → List Ob → List Ob → Prop
  | .ret, fr, ba, lo => retK fr ba lo f.res Q
  | .normal, fr, ba, lo => retK fr ba lo f.res Q
  | .panic ch, fr, ba, lo => X ch ba
  | _, _, _, _ => False
def fnP (P : Program) (f : IF) (args : List AV) (H : List Ob) (Q : AV → List Ob → Prop) (X : List PanicEntry → List Ob → Prop) : Prop :=
  bif Nat.beq args.length f.params then W P f.body (frameOf 0 args) H [] (endPQ f Q X) else False

theorem soundP {own : List Nat} {f : Nat} {ir : IF} {args : List AV} {H : List Ob} {Q : AV → List Ob → Prop} {X : List PanicEntry → List Ob → Prop} (hc : compF P own f = some ir.bare) (h : fnP P ir args H Q X) : callP P f args H Q X := by
  intro μ w xs hi hx
  unfold compF at hc
  split at hc
  · cases hc
  · rename_i fn hfn
    split at hc
    · cases hc
    · rename_i c hbody
      split at hc
      · rename_i ic rs hic hrs
        split at hc
        · rename_i hcond
          obtain ⟨hpar, _, hm⟩ := hcond
          have hc := Option.some.inj hc
          have e1 : ic = ir.body.bare := congrArg IF.body hc
          have e2 : rs = ir.res := congrArg IF.res hc
          have e3 : fn.params.size + fn.nfree = ir.params := congrArg IF.params hc
          subst e1
          subst e2
          unfold fnP at h
          cases hb : Nat.beq args.length ir.params with
          | false => rw [hb] at h; exact h.elim
          | true =>
            rw [hb] at h
            have hlen : args.length = ir.params := Nat.eq_of_beq_eq_true hb
            have h : W P ir.body (frameOf 0 args) H [] (endPQ ir Q X) := h
            have hsz : xs.size = args.length := hx.1
            have hrel : Rel fn.ntmps w.heap.size [] μ w { tmps := xs ++ Array.replicate (fn.ntmps - xs.size) undef, defers := [] } (frameOf 0 args) H [] := by
              refine ⟨hi, by simp; omega, Nat.le_refl _, .nil, fun t => ?_⟩
              rw [frameOf_get, if_pos (Nat.zero_le _), Nat.sub_zero]
              simp only [Array.getD_eq_getD_getElem?]
              rcases Nat.lt_or_ge t args.length with ht | ht
              · rw [Array.getElem?_append_left (by omega), Array.getElem?_eq_getElem (by omega), List.getElem?_eq_getElem ht]
                exact hx.2 t _ _ (Array.getElem?_eq_getElem (by omega)) (List.getElem?_eq_getElem ht)
              · rw [List.getElem?_eq_none (by omega)]
                exact .p _ _ (.undef _)
            refine callsIn_wide.1 (callsIn_of_wp_marks (F := FW none) (n := 0) hfn hbody trivial (wpIn_mono (W_sound hm 0 ir.body c hic h hrel) fun e a' w' hp => ?_))
            obtain ⟨μ', fr', ba', lo', g1, g2, g3, g4⟩ := hp
            have hl : ba'.length = μ.length := by rw [g4, hi.len]; rfl
            have fin : retK fr' ba' lo' ir.res Q → LeavesInM (FW none) 0 P fn a'.tmps (fun e w' => (∃ (v : Value) (r : AV) (H' : List Ob) (μ' : List MI), e = .returned v ∧ Q r H' ∧ Inv μ' w' H' [] ∧ VA ⟨blocks μ', H'.length, μ'⟩ w' v r ∧ Le μ w μ' w') ∨
                ∃ (ch : List PanicEntry) (H' : List Ob) (μ' : List MI), e = .panicked ch ∧ X ch H' ∧ Inv μ' w' H' [] ∧ Le μ w μ' w') a'.defers .returning w' := fun g1 => by
              obtain ⟨Ds, d1, d2, d3⟩ := g2.defers
              rw [d1, List.append_nil]
              refine leaves_marks Ds d2 (fun D hD => (d3 D hD).2.2) ?_
              obtain ⟨q1, q2⟩ := Rel.shut (a := a') Ds d2 d3 ⟨g2.inv, g2.size, g2.base, .nil, g2.vals⟩ g3
              obtain ⟨v, r, k1, k2, k3, k4⟩ := ret_out hrs g1 q1
              refine ⟨v, k1, .inl ⟨v, r, ba', _, rfl, k2, k3, k4, ?_⟩⟩
              rw [hl]
              exact q2.trunc
            cases e with
            | normal => exact fin g1
            | ret => exact fin g1
            | exit id => exact g1.elim
            | goto l => exact g1.elim
            | panic ch =>
              obtain ⟨Ds, d1, d2, d3⟩ := g2.defers
              show LeavesInM (FW none) 0 P fn a'.tmps _ a'.defers (.panicking ch) w'
              rw [d1, List.append_nil]
              obtain ⟨q1, q2⟩ := Rel.shut (a := a') Ds d2 d3 ⟨g2.inv, g2.size, g2.base, .nil, g2.vals⟩ g3
              refine leaves_marksP Ds d2 (fun D hD => (d3 D hD).2.2) (.inr ⟨ch, ba', μ'.take ba'.length, rfl, g1, ?_, ?_⟩)
              · simpa using q1.inv.trunc (n := 0) (Nat.zero_le _) rfl
              · rw [hl]; exact q2.trunc
            | outgrown => exact g1.elim
        · cases hc
      · cases hc

/-! ### methods that may panic: what comes of them is told -/
inductive Out where
  | ret (r : PV) (os : List Ob)
  | pan (ch : List PanicEntry) (os : List Ob)
def MethP (P : Program) (f : Nat) (args : List AV) (os : List Ob) (o : Out) : Prop := ∀ rest, callP P f args (os ++ rest) (fun r' H' => ∃ r os', o = .ret r os' ∧ r' = .p r ∧ H' = os' ++ rest) fun ch H' => ∃ os', o = .pan ch os' ∧ H' = os' ++ rest
theorem MethP.of {own : List Nat} {f : Nat} {ir : IF} {args : List AV} {os : List Ob} {o : Out} (hc : compF P own f = some ir.bare)
    (h : ∀ rest, fnP P ir args (os ++ rest) (fun r' H' => match o with | .ret r os' => (∃ p, r' = .p p ∧ p.le r) ∧ H' = os' ++ rest | .pan _ _ => False) fun ch H' => match o with | .ret _ _ => False | .pan ch' os' => ch = ch' ∧ H' = os' ++ rest) : MethP P f args os o := fun rest μ w xs hi hx => by
  refine Calls.mono' (soundP hc (h rest) μ w xs hi hx) fun e w' hw => ?_
  cases o with
  | ret r os' =>
    rcases hw with ⟨v, r1, H', μ', h1, ⟨⟨p, rfl, hl⟩, rfl⟩, h3, h4, h5⟩ | ⟨ch, H', μ', h1, h2, h3⟩
    · exact .inl ⟨v, .p r, _, μ', h1, ⟨r, os', rfl, rfl, rfl⟩, h3, (by cases h4 with | p _ _ h => exact .p _ _ (hl _ _ _ h)), h5⟩
    · exact h2.elim
  | pan ch os' =>
    rcases hw with ⟨v, r1, H', μ', h1, h2, h3⟩ | ⟨ch', H', μ', h1, ⟨rfl, rfl⟩, h3, h4⟩
    · exact h2.elim
    · exact .inr ⟨_, _, μ', h1, ⟨os', rfl, rfl⟩, h3, h4⟩

/-- What a caller has to show. -/
def outK (o : Out) (n : Nat) (k : List Ob → List Ob) (ba2 lo2 : List Ob → List Ob) (K : AV → List Ob → List Ob → Prop) (X : XV) : Prop :=
  match o with
  | .ret r os' => (os'.length = n ∧ os'.all Ob.noRef = true) ∧ K (.p r) (ba2 os') (lo2 os')
  | .pan ch os' => (os'.length = n ∧ os'.all Ob.noRef = true) ∧ X ch (ba2 os') (lo2 os')

theorem CallPV.to {f : Nat} {args : List AV} {ba lo : List Ob} {K : AV → List Ob → List Ob → Prop} {X : XV}
    (h : callP P f (AV.closes ba.length args) (flat ba lo) (fun r H' => ∃ (r' : AV) (base' loc' : List Ob), r = r'.close ba.length ∧ r'.Low ba.length ∧ H' = base' ++ loc'.map (Ob.close ba.length) ∧ base'.length = ba.length ∧ (∀ o, o ∈ base' → o ∈ ba ∨ o.LowB ba.length) ∧ (∀ o, o ∈ loc' → o ∈ lo ∨ o.Low ba.length) ∧ K r' base' loc')
      fun ch H' => ∃ (base' loc' : List Ob), H' = base' ++ loc'.map (Ob.close ba.length) ∧ base'.length = ba.length ∧ (∀ o, o ∈ base' → o ∈ ba ∨ o.LowB ba.length) ∧ (∀ o, o ∈ loc' → o ∈ lo ∨ o.Low ba.length) ∧ X ch base' loc') : CallPV P f args ba lo K X := by
  refine ⟨fun μ w xs hi hx => ?_⟩
  have hn : ba.length ≤ μ.length := by rw [hi.len]; omega
  have hfl : (flat ba lo).length = μ.length := by rw [flat_length, hi.len]
  have lows : ∀ (ba' lo' : List Ob), (∀ o, o ∈ ba' → o ∈ ba ∨ o.LowB ba.length) → (∀ o, o ∈ lo' → o ∈ lo ∨ o.Low ba.length) → (∀ o, o ∈ ba' → o.LowB ba.length) ∧ ∀ o, o ∈ lo' → o.Low ba.length := fun ba' lo' hb1 hl1 => by
    refine ⟨fun o ho => ?_, fun o ho => ?_⟩
    · rcases hb1 o ho with h1 | h1
      · obtain ⟨j, hj⟩ := List.mem_iff_getElem?.1 h1
        obtain ⟨m, _, g2⟩ := hi.bases j o hj
        exact ob_lowB g2
      · exact h1
    · rcases hl1 o ho with h1 | h1
      · obtain ⟨j, hj⟩ := List.mem_iff_getElem?.1 h1
        obtain ⟨m, _, g2⟩ := hi.locs j o hj
        exact ob_low rfl g2
      · exact h1
  refine (h μ w xs hi.flat ⟨by rw [closes_length]; exact hx.1, fun j x a hj ha => ?_⟩).mono fun e w' hw => ?_
  · rw [closes_get] at ha
    obtain ⟨a', ha', rfl⟩ := map_some ha
    rw [hfl]
    exact (hx.2 j x a' hj ha').closed hn
  · rcases hw with ⟨v, r, H', μ', he, ⟨r', ba', lo', rfl, hr, rfl, hbl, hb1, hl1, hk⟩, hinv, hv, hle⟩ | ⟨ch, H', μ', he, ⟨ba', lo', rfl, hbl, hb1, hl1, hk⟩, hinv, hle⟩
    · obtain ⟨hb2, hl2⟩ := lows ba' lo' hb1 hl1
      have hinv' := hinv.unflat hbl hb2 hl2
      refine .inl ⟨v, r', μ', ba', lo', he, VA.opened hr ?_, hinv', hle, hbl, hk⟩
      have : (ba' ++ lo'.map (Ob.close ba.length)).length = μ'.length := by rw [hinv'.len]; simp
      rw [this] at hv
      exact hv
    · obtain ⟨hb2, hl2⟩ := lows ba' lo' hb1 hl1
      exact .inr ⟨ch, μ', ba', lo', he, hinv.unflat hbl hb2 hl2, hle, hbl, hk⟩

theorem noRef_lowB (n : Nat) {o : Ob} (h : o.noRef = true) : o.LowB n := by
  cases o with
  | cells cs =>
    intro a ha
    obtain ⟨v, rfl⟩ := allP_mem cs h a ha
    exact ⟨.p _, rfl⟩
  | mapA ks cs =>
    intro a ha
    obtain ⟨v, rfl⟩ := allP_mem cs h a ha
    exact ⟨.p _, rfl⟩
  | bufA g cs =>
    intro a ha
    obtain ⟨v, rfl⟩ := allP_mem cs h a ha
    exact ⟨.p _, rfl⟩
  | loop => cases h
  | _ => trivial

/-- From one such method to another, on the same objects. -/
theorem CallPV.same {f : Nat} {args : List AV} {os rest lo : List Ob} {K : AV → List Ob → List Ob → Prop} {X : XV} {o : Out} (h : MethP P f args os o) (ha : AV.closes (os ++ rest).length args = args)
    (k : match o with | .ret r os' => (os'.length = os.length ∧ os'.all Ob.noRef = true) ∧ K (.p r) (os' ++ rest) lo | .pan ch os' => (os'.length = os.length ∧ os'.all Ob.noRef = true) ∧ X ch (os' ++ rest) lo) : CallPV P f args (os ++ rest) lo K X := by
  refine CallPV.to ?_
  rw [ha]
  have e1 : flat (os ++ rest) lo = os ++ (rest ++ lo.map (Ob.close (os ++ rest).length)) := by rw [flat, List.append_assoc]
  rw [e1]
  have bases : ∀ os' : List Ob, os'.all Ob.noRef = true → ∀ o, o ∈ os' ++ rest → o ∈ os ++ rest ∨ o.LowB (os ++ rest).length := fun os' hc o ho => by
    rw [List.mem_append] at ho
    rcases ho with ho | ho
    · exact .inr (noRef_lowB _ (List.all_eq_true.1 hc o ho))
    · exact .inl (List.mem_append.2 (.inr ho))
  intro μ w xs hi hx
  refine (h _ μ w xs hi hx).mono fun e w' hw => ?_
  rcases hw with ⟨v, r, H', μ', he, ⟨r0, os', rfl, rfl, rfl⟩, h3⟩ | ⟨ch, H', μ', he, ⟨os', rfl, rfl⟩, h3⟩
  · obtain ⟨⟨hl, hc⟩, hk⟩ := k
    exact .inl ⟨v, _, _, μ', he, ⟨.p r0, os' ++ rest, lo, by rw [AV.close], .p _, by rw [List.append_assoc], by simp [hl], bases os' hc, fun o ho => .inl ho, hk⟩, h3⟩
  · obtain ⟨⟨hl, hc⟩, hk⟩ := k
    exact .inr ⟨ch, _, μ', he, ⟨os' ++ rest, lo, by rw [List.append_assoc], by simp [hl], bases os' hc, fun o ho => .inl ho, hk⟩, h3⟩

/-- The same where the order is open. -/
theorem CallPE.same {f : Nat} {args : List AV} {os rest lo : List Ob} {K : AV → List Ob → List Ob → Prop} {X : XV} {o : Out} (h : MethP P f args os o) (ha : AV.closes (os ++ rest).length args = args)
    (k : match o with | .ret r os' => (os'.length = os.length ∧ os'.all Ob.noRef = true) ∧ K (.p r) (os' ++ rest) lo | .pan ch os' => (os'.length = os.length ∧ os'.all Ob.noRef = true) ∧ X ch (os' ++ rest) lo) : CallPE P f args (os ++ rest) lo K X := by
  cases o with
  | ret r os' => exact ⟨.inl ⟨_, _, _, CallPV.same h ha ⟨k.1, rfl, rfl, rfl⟩, k.2⟩⟩
  | pan ch os' => exact ⟨.inr ⟨_, _, _, CallPV.same h ha ⟨k.1, rfl, rfl, rfl⟩, k.2⟩⟩

end
end Go.Proofs.YtgdimfogijfmiaaDoor.AD
