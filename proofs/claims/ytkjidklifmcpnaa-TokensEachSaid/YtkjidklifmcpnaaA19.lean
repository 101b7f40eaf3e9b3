/- A plainer machine, nineteen: pieces of code, loops, functions. -/
import Derived.Test.YtkjidklifmcpnaaA18
import Derived.Scope
namespace Go.Proofs.Ytkjidklifmcpnaa.AD
set_option linter.unusedVariables false
set_option linter.unusedSimpArgs false

theorem stepR_scope {P : Program} {b : Frame} {a : Act} {k : List Item} {cs : List Frame} {w : World} {c : Code} : step P (lone (b.atR a (.code (.scope c) :: k)) cs w) = .next (lone (b.atR a (.code c :: .inScope c :: k)) cs w) :=
  step_lone_go (by simp [stepG, stepG.exec, Frame.atR])
theorem stepR_inScope {P : Program} {b : Frame} {a : Act} {k : List Item} {cs : List Frame} {w : World} {c : Code} : step P (lone (b.atR a (.inScope c :: k)) cs w) = .next (lone (b.atR a k) cs w) :=
  step_lone_go (by simp [stepG, stepG.exec, Frame.atR])

/-- At a loop's head, in a round. -/
def inLoop (F : Fence) (n : Nat) (P : Program) (c : Code) (Q : Exit → Act → World → Prop) (a : Act) (w : World) : Prop :=
  ∀ (b : Frame) (k : List Item) (cs : List Frame), b.roundOf = F.round → F.fn b.fn → F.room (cs.length + 1 + n) → ∃ e a' w', Q e a' w' ∧ ArrivesIn (Machine.fenced P F) P (lone (b.atR a (.code c :: .inLoop c :: k)) cs w) b k cs e a' w'

theorem in_round {F : Fence} {n : Nat} {P : Program} {c : Code} {Q : Exit → Act → World → Prop} {a : Act} {w : World} (h : c.wpIn F n P (Exit.then (inLoop F n P c Q) Q) a w) : inLoop F n P c Q a w := by
  intro b k cs hro hb hr
  obtain ⟨e, a₁, w₁, hq, harr⟩ := h b (.inLoop c :: k) cs hro hb hr
  cases e with
  | normal =>
    obtain ⟨e₂, a₂, w₂, hq₂, harr₂⟩ := hq b k cs hro hb hr
    exact ⟨e₂, a₂, w₂, hq₂, .of_steps (StepsIn.trans harr (.one (fenced_calm hb hr rfl) stepR_inLoop)) harr₂⟩
  | exit id => exact ⟨_, a₁, w₁, hq, .pass (x := .inLoop c) rfl (fun _ _ => .inl (by simp)) harr⟩
  | goto l => exact ⟨_, a₁, w₁, hq, .pass (x := .inLoop c) rfl (fun _ _ => .inl (by simp)) harr⟩
  | ret => exact ⟨_, a₁, w₁, hq, .pass (x := .inLoop c) rfl (fun _ _ => .inl (by simp)) harr⟩
  | panic ch => exact ⟨_, a₁, w₁, hq, .pass (x := .inLoop c) rfl (fun _ _ => .inl (by simp)) harr⟩
  | outgrown => exact ⟨_, a₁, w₁, hq, .pass (x := .inLoop c) rfl (fun _ _ => .inl (by simp)) harr⟩

theorem wp_of_in {F : Fence} {n : Nat} {P : Program} {c : Code} {Q : Exit → Act → World → Prop} {a : Act} {w : World} (h : inLoop F n P c Q a w) : (Code.loop c).wpIn F n P Q a w := by
  intro b k cs hro hb hr
  obtain ⟨e, a', w', hq, harr⟩ := h b k cs hro hb hr
  exact ⟨e, a', w', hq, .of_steps (.one (fenced_calm hb hr rfl) stepR_loop) harr⟩

theorem inLoop_mono {F : Fence} {n : Nat} {P : Program} {c : Code} {Q Q' : Exit → Act → World → Prop} {a : Act} {w : World} (h : inLoop F n P c Q a w) (k : ∀ e a w, Q e a w → Q' e a w) : inLoop F n P c Q' a w := by
  intro b k' cs hro hb hr
  obtain ⟨e, a', w', hq, harr⟩ := h b k' cs hro hb hr
  exact ⟨e, a', w', k _ _ _ hq, harr⟩

/-! #### pieces with labels -/
/-- At a label. -/
def ScopeAt (F : Fence) (n : Nat) (P : Program) (c : Code) (l : Nat) (Q : Exit → Act → World → Prop) (a : Act) (w : World) : Prop :=
  ∃ rest, findLabel c l = some rest ∧ ∀ (b : Frame) (k : List Item) (cs : List Frame), b.roundOf = F.round → F.fn b.fn → F.room (cs.length + 1 + n) → ∃ e a' w', Q e a' w' ∧ ArrivesIn (Machine.fenced P F) P (lone (b.atR a (.code rest :: .inScope c :: k)) cs w) b k cs e a' w'

def Exit.lab (F : Fence) (n : Nat) (P : Program) (c : Code) (Q : Exit → Act → World → Prop) : Exit → Act → World → Prop
  | .goto l, a, w => ScopeAt F n P c l Q a w
  | e, a, w => Q e a w

theorem ScopeAt.mono {F : Fence} {n : Nat} {P : Program} {c : Code} {l : Nat} {Q Q' : Exit → Act → World → Prop} {a : Act} {w : World} (h : ScopeAt F n P c l Q a w) (k : ∀ e a w, Q e a w → Q' e a w) : ScopeAt F n P c l Q' a w := by
  obtain ⟨rest, h1, h2⟩ := h
  refine ⟨rest, h1, fun b k' cs hro hb hr => ?_⟩
  obtain ⟨e, a', w', hq, harr⟩ := h2 b k' cs hro hb hr
  exact ⟨e, a', w', k _ _ _ hq, harr⟩

theorem lab_arrives {F : Fence} {n : Nat} {P : Program} {c : Code} {Q : Exit → Act → World → Prop} {m : Machine} {b : Frame} {k : List Item} {cs : List Frame} {e : Exit} {a₁ : Act} {w₁ : World} (hro : b.roundOf = F.round) (hb : F.fn b.fn) (hr : F.room (cs.length + 1 + n))
    (hq : Exit.lab F n P c Q e a₁ w₁) (harr : ArrivesIn (Machine.fenced P F) P m b (.inScope c :: k) cs e a₁ w₁) :
    ∃ e a' w', Q e a' w' ∧ ArrivesIn (Machine.fenced P F) P m b k cs e a' w' := by
  cases e with
  | normal => exact ⟨.normal, a₁, w₁, hq, StepsIn.trans harr (.one (fenced_calm hb hr rfl) stepR_inScope)⟩
  | exit id =>
    have hx : exitTo id (.inScope c :: k) = exitTo id k := by simp [exitTo]
    exact ⟨.exit id, a₁, w₁, hq, fun k' hk => harr.1 k' (by rw [hx]; exact hk), fun hr' hk => harr.2 hr' (by rw [hx]; exact hk)⟩
  | goto l =>
    obtain ⟨rest, h1, h2⟩ := hq
    obtain ⟨e₂, a₂, w₂, hq₂, harr₂⟩ := h2 b k cs hro hb hr
    exact ⟨e₂, a₂, w₂, hq₂, .of_steps (harr.1 _ (by simp [gotoIn, h1])) harr₂⟩
  | ret => exact ⟨_, a₁, w₁, hq, harr⟩
  | panic ch => exact ⟨_, a₁, w₁, hq, harr⟩
  | outgrown => exact ⟨_, a₁, w₁, hq, harr⟩

theorem wp_scope_lab {F : Fence} {n : Nat} {P : Program} {c : Code} {Q : Exit → Act → World → Prop} {a : Act} {w : World} (h : c.wpIn F n P (Exit.lab F n P c Q) a w) : (Code.scope c).wpIn F n P Q a w := by
  intro b k cs hro hb hr
  obtain ⟨e, a₁, w₁, hq, harr⟩ := h b (.inScope c :: k) cs hro hb hr
  obtain ⟨e₂, a₂, w₂, hq₂, harr₂⟩ := lab_arrives hro hb hr hq harr
  exact ⟨e₂, a₂, w₂, hq₂, .of_steps (.one (fenced_calm hb hr rfl) stepR_scope) harr₂⟩

theorem at_label {F : Fence} {n : Nat} {P : Program} {c rest : Code} {l : Nat} {Q : Exit → Act → World → Prop} {a : Act} {w : World} (hf : findLabel c l = some rest) (h : rest.wpIn F n P (Exit.lab F n P c Q) a w) : ScopeAt F n P c l Q a w := by
  refine ⟨rest, hf, fun b k cs hro hb hr => ?_⟩
  obtain ⟨e, a₁, w₁, hq, harr⟩ := h b (.inScope c :: k) cs hro hb hr
  exact lab_arrives hro hb hr hq harr

section
variable {P : Program} {N B : Nat}

/-- What is reached, and how far that is from where one came from. -/
def Post (N B : Nat) (μ : List MI) (w : World) (n0 : Nat) (Q : Exit → FR → List Ob → List Ob → Prop) (e : Exit) (a' : Act) (w' : World) : Prop :=
  ∃ μ' fr' ba' lo', Q e fr' ba' lo' ∧ Rel N B μ' w' a' fr' ba' lo' ∧ Le μ w μ' w' ∧ ba'.length = n0

theorem Post.from {μ μ' : List MI} {w w' : World} {n0 : Nat} {Q : Exit → FR → List Ob → List Ob → Prop} {e : Exit} {a : Act} {w'' : World} (h : Post N B μ' w' n0 Q e a w'') (hle : Le μ w μ' w') : Post N B μ w n0 Q e a w'' := by
  obtain ⟨μ2, fr', ba', lo', h1, h2, h3, h4⟩ := h
  exact ⟨μ2, fr', ba', lo', h1, h2, hle.trans h3, h4⟩

theorem Rel.proj {μ : List MI} {w : World} {a : Act} {fr : FR} {ba lo : List Ob} (h : Rel N B μ w a fr ba lo) (ks : List Nat) : Rel N B μ w a (ks.map fun t => (t, getF fr t)) ba lo :=
  ⟨h.inv, h.size, h.base, h.defers, fun t => by
    rcases get_proj ks fr t with e | e
    · rw [e]; exact h.vals t
    · rw [e]; exact .p _ _ (.undef _)⟩

/-! #### back to fewer objects -/

theorem at_to_takeN {M M' : Nat → Prop} {n0 n : Nat} {μ : List MI} {r : Rf} {m : MI} (hl : r.lowL n = true) (h : Ctx.at ⟨M, n0, μ⟩ r = some m) : Ctx.at ⟨M', n0, μ.take (n0 + n)⟩ r = some m := by
  cases r with
  | l k =>
    have hk : k < n := by
      have : k + 1 ≤ n := by simpa [Rf.lowL, Nat.blt] using hl
      exact this
    simp only [Ctx.at] at h ⊢
    rw [List.getElem?_take, if_pos (by omega)]; exact h
  | b id =>
    simp only [Ctx.at] at h ⊢
    split at h
    · rename_i hlt; rw [if_pos hlt, List.getElem?_take, if_pos (by omega)]; exact h
    · cases h

theorem VA.to_takeN {M M' : Nat → Prop} {n0 n : Nat} {μ : List MI} {w : World} {v : Value} {a : AV} (hs : Stays M w M' w) (h : VA ⟨M, n0, μ⟩ w v a) : a.lowL n = true → VA ⟨M', n0, μ.take (n0 + n)⟩ w v a := by
  generalize hΓ : (⟨M, n0, μ⟩ : Ctx) = Γ at h
  induction h with
  | p v e h => subst hΓ; intro _; exact .p v e (h.mono hs)
  | ref r off b h => subst hΓ; intro hl; simp only [AV.lowL] at hl; exact .ref r off b (at_to_takeN hl h)
  | view0 r g sz n h => subst hΓ; intro hl; simp only [AV.lowL] at hl; exact .view0 r g sz n (at_to_takeN hl h)
  | view r g sz n b len cap h h1 h2 => subst hΓ; intro hl; simp only [AV.lowL] at hl; exact .view r g sz n b len cap (at_to_takeN hl h) h1 h2
  | viewOld v r g sz len b g' n h hg h0 => subst hΓ; intro hl; simp only [AV.lowL] at hl; exact .viewOld v r g sz len b g' n (at_to_takeN hl h) hg h0
  | viewGone v r g sz len h h0 => subst hΓ; intro hl; simp only [AV.lowL] at hl; exact .viewGone v r g sz len (at_to_takeN hl h) h0
  | elt r g sz n b idx off h => subst hΓ; intro hl; simp only [AV.lowL] at hl; exact .elt r g sz n b idx off (at_to_takeN hl h)
  | eltOld v r g sz idx off b g' n h hg h0 => subst hΓ; intro hl; simp only [AV.lowL] at hl; exact .eltOld v r g sz idx off b g' n (at_to_takeN hl h) hg h0
  | eltGone v r g sz idx off h h0 => subst hΓ; intro hl; simp only [AV.lowL] at hl; exact .eltGone v r g sz idx off (at_to_takeN hl h) h0
  | mapr r b h => subst hΓ; intro hl; simp only [AV.lowL] at hl; exact .mapr r b (at_to_takeN hl h)
  | maprGone v r h h0 => subst hΓ; intro hl; simp only [AV.lowL] at hl; exact .maprGone v r (at_to_takeN hl h) h0
  | clos f xs ys as bs h1 h2 _ _ ih1 ih2 =>
    intro hl; simp only [AV.lowL, Bool.and_eq_true] at hl
    exact .clos f xs ys as bs h1 h2 (fun j x c hx hc => ih1 j x c hx hc (lowsL_mem hl.1 c (List.mem_of_getElem? hc))) (fun j x c hx hc => ih2 j x c hx hc (lowsL_mem hl.2 c (List.mem_of_getElem? hc)))
  | agg xs cs h1 _ h3 ih => intro hl; simp only [AV.lowL] at hl; exact .agg xs cs h1 (fun j x c hx hc => ih j x c hx hc (lowsL_mem hl c (List.mem_of_getElem? hc))) h3
  | tup xs cs h1 _ ih => intro hl; simp only [AV.lowL] at hl; exact .tup xs cs h1 (fun j x c hx hc => ih j x c hx hc (lowsL_mem hl c (List.mem_of_getElem? hc)))

theorem obsLowL_get {n : Nat} : ∀ {l : List Ob}, obsLowL n l = true → ∀ (k : Nat) (o : Ob), l[k]? = some o → ∀ cs, (o = .cells cs ∨ ∃ a b c d, o = .loop a b c cs d) → AV.lowsL n cs = true
  | [], _, k, o, h, _, _ => by simp at h
  | x :: r, h, k, o, ho, cs, e => by
    cases k with
    | zero =>
      simp at ho
      subst ho
      rcases e with rfl | ⟨_, _, _, _, rfl⟩
      · simp only [obsLowL, Bool.and_eq_true] at h
        exact h.1
      · simp only [obsLowL, Bool.and_eq_true] at h
        exact h.1
    | succ k =>
      have : obsLowL n r = true := by
        cases x <;> simp only [obsLowL, Bool.and_eq_true] at h <;> first | exact h.2 | exact h
      exact obsLowL_get this k o (by simpa using ho) cs e

theorem blocks_take {μ : List MI} {n b : Nat} (h : blocks (μ.take n) b) : blocks μ b := by
  obtain ⟨i, m, h1, h2⟩ := h
  exact ⟨i, m, take_get h1, h2⟩

theorem Inv.trunc {μ : List MI} {w : World} {ba lo : List Ob} (h : Inv μ w ba lo) {n : Nat} (hn : n ≤ lo.length) (hl : obsLowL n (lo.take n) = true) : Inv (μ.take (ba.length + n)) w ba (lo.take n) := by
  have hs : Stays (blocks μ) w (blocks (μ.take (ba.length + n))) w := ⟨Nat.le_refl _, fun b _ hb => ⟨fun hc => hb (blocks_take hc), rfl⟩⟩
  refine ⟨by rw [List.length_take, List.length_take, h.len]; omega, fun i j m m' b h1 h2 => h.apart i j m m' b (take_get h1) (take_get h2), fun i o ho => ?_, fun k o ho => ?_⟩
  · obtain ⟨m, h1, h2⟩ := h.bases i o ho
    have hi := get_lt ho
    refine ⟨m, by rw [List.getElem?_take, if_pos (by omega)]; exact h1, ?_⟩
    rw [List.take_take, Nat.min_eq_left (by omega)]
    exact h2.mono hs (.refl _) fun b _ => rfl
  · have hk := get_lt ho
    rw [List.length_take] at hk
    have ho' := take_get ho
    obtain ⟨m, h1, h2⟩ := h.locs k o ho'
    refine ⟨m, by rw [List.getElem?_take, if_pos (by omega)]; exact h1, ?_⟩
    cases h2 with
    | cells b xs t cs a1 a2 a3 =>
      have hcs := obsLowL_get hl k _ ho cs (.inl rfl)
      exact .cells b xs t cs a1 a2 fun j x c hx hc => ⟨(a3 j x c hx hc).1.to_takeN hs (lowsL_mem hcs c (List.mem_of_getElem? hc)), (a3 j x c hx hc).2⟩
    | buf0 g sz n => exact .buf0 g sz n
    | buf b g n sz xs t es c a1 a2 a3 a4 => exact .buf b g n sz xs t es c a1 a2 a3 fun j e he => ⟨(a4 j e he).1, (a4 j e he).2.1, (a4 j e he).2.2.mono hs⟩
    | map b clock xs es a1 a2 a3 => exact .map b clock xs es a1 a2 fun j x e hx he => ⟨(a3 j x e hx he).1.mono hs, (a3 j x e hx he).2.mono hs⟩
    | loop l r ks cs st p a1 a2 a0 a3 =>
      have hcs := obsLowL_get hl k _ ho cs (.inr ⟨_, _, _, _, rfl⟩)
      exact .loop l r ks cs st p a1 a2 a0 fun j t c hj hc => (a3 j t c hj hc).to_takeN hs (lowsL_mem hcs c (List.mem_of_getElem? hc))
    | gone => exact .gone

theorem Le.trunc {μ μ' : List MI} {w w' : World} (h : Le μ w μ' w') : Le μ w (μ'.take μ.length) w' :=
  ⟨h.os, h.tape, h.output, fun i m hm => by
    obtain ⟨m', h1, h2⟩ := h.above i m hm
    exact ⟨m', by rw [List.getElem?_take, if_pos (get_lt hm)]; exact h1, h2⟩,
   h.stays.1, fun b hb hm => ⟨fun hc => (h.stays.2 b hb hm).1 (blocks_take hc), (h.stays.2 b hb hm).2⟩⟩

theorem frLowL_get {n : Nat} : ∀ {fr : FR}, frLowL n fr = true → ∀ t, (getF fr t).lowL n = true
  | [], _, t => rfl
  | (u, x) :: r, h, t => by
    simp only [frLowL, Bool.and_eq_true] at h
    simp only [getF]
    cases Nat.beq u t
    · exact frLowL_get h.2 t
    · exact h.1

/-- The code that is read so. -/
inductive Reads (P : Program) (N : Nat) (own : List Nat) : Code → IC → Prop
  | skip : Reads P N own .skip .skip
  | ops (id : Nat) (ops : Array Oper) (is : List IO_) : compOps P N own ops.toList 0 ops.toList = some is → Reads P N own (.region id ops false) (.ops is)
  | dops (id : Nat) (ops : Array Oper) (is : List IO_) : compOps P N own ops.toList 0 ops.toList = some is → drawOk false ops.toList is = true → Reads P N own (.region id ops true) (.dops is)
  | eops (id : Nat) (ops : Array Oper) (is : List IO_) : compOps P N own ops.toList 0 ops.toList = some is → drawOk true ops.toList is = true → Reads P N own (.region id ops true) (.eops is (befores ops.toList))
  | seq (a b : Code) (x y : IC) : compC P N own a = some x → compC P N own b = some y → Reads P N own (.seq a b) (.seq x y)
  | cond (o : Operand) (r : Rv) (a b : Code) (x y : IC) : rv o = some r → compC P N own a = some x → compC P N own b = some y → Reads P N own (.cond o a b) (.cond r x y)
  | block (id : Nat) (a : Code) (x : IC) : compC P N own a = some x → Reads P N own (.block id a) (.block id x)
  | loop (a : Code) (x : IC) : compC P N own a = some x → Reads P N own (.loop a) (.loop [] x)
  | exit (id : Nat) : Reads P N own (.exit id) (.exit id)
  | ret : Reads P N own .ret .ret
  | scope (a : Code) (x y : IC) : compC P N own a = some x → y = chainI x (labelsI x) → Reads P N own (.scope a) (.scope y)
  | label (l : Nat) : Reads P N own (.label l) (.label l)
  | goto (l : Nat) : Reads P N own (.goto l) (.goto l [])
  | rangeF (g : Operand) (r : Rv) (ps : Array Nat) (a b : Code) (x y : IC) (l : List Nat) : rv g = some r → compC P N own a = some x → compC P N own b = some y → (∀ t, t ∈ ps.toList → t < N) → l = ps.toList → Reads P N own (.rangeFunc g ps a b) (.rangeF [] r l x y)
  | bad (c : Code) : Reads P N own c .bad

theorem reads_of {own : List Nat} {c : Code} {ic : IC} (h : compC P N own c = some ic) : Reads P N own c ic := by
  cases c with
  | skip => cases h; exact .skip
  | region id ops draw =>
    simp only [compC] at h
    split at h
    · rename_i is his
      cases draw with
      | false => simp only [Bool.false_eq_true, if_false] at h; cases h; exact .ops id ops is his
      | true =>
        simp only [if_true] at h
        split at h
        · rename_i hd; cases h; exact .dops id ops is his hd
        · split at h
          · rename_i hd; cases h; exact .eops id ops is his hd
          · cases h
    · cases h
  | seq a b =>
    simp only [compC] at h
    split at h
    · rename_i x y h1 h2; cases h; exact .seq a b x y h1 h2
    · cases h
  | cond o a b =>
    simp only [compC] at h
    split at h
    · rename_i r x y h1 h2 h3; cases h; exact .cond o r a b x y h1 h2 h3
    · cases h
  | block id a => obtain ⟨x, h1, rfl⟩ := map_some h; exact .block id a x h1
  | loop a => obtain ⟨x, h1, rfl⟩ := map_some h; exact .loop a x h1
  | exit id => cases h; exact .exit id
  | ret => cases h; exact .ret
  | scope a => obtain ⟨x, h1, rfl⟩ := map_some h; exact .scope a x _ h1 rfl
  | label l => cases h; exact .label l
  | goto l => cases h; exact .goto l
  | rangeFunc g ps a b =>
    simp only [compC] at h
    split at h
    · rename_i r x y h1 h2 h3
      split at h
      · rename_i h4
        cases h
        refine .rangeF g r ps a b x y _ h1 h2 h3 (fun t ht => ?_) rfl
        rw [List.all_eq_true] at h4
        have : Nat.ble (t + 1) N = true := h4 t ht
        exact Nat.le_of_ble_eq_true this
      · cases h
    · cases h
  | _ => cases h; exact .bad _

/-- What stands behind a label is read alike. -/
theorem find_comp {own : List Nat} : ∀ (c : Code) (x : IC), compC P N own c = some x → ∀ l, (findLabel c l = none ∧ findI x l = none) ∨ ∃ r y, findLabel c l = some r ∧ findI x l = some y ∧ compC P N own r = some y := by
  intro c
  induction c with
  | seq a b iha ihb =>
    intro x hx l
    simp only [compC] at hx
    split at hx
    · rename_i x y h1 h2
      cases hx
      rcases iha x h1 l with ⟨g1, g2⟩ | ⟨r, z, g1, g2, g3⟩
      · rcases ihb y h2 l with ⟨k1, k2⟩ | ⟨r, z, k1, k2, k3⟩
        · exact .inl ⟨by simp [findLabel, g1, k1], by simp [findI, g2, k2]⟩
        · exact .inr ⟨r, z, by simp [findLabel, g1, k1], by simp [findI, g2, k2], k3⟩
      · exact .inr ⟨.seq r b, .seq z y, by simp [findLabel, g1], by simp [findI, g2], by simp [compC, g3, h2]⟩
    · cases hx
  | label l' =>
    intro x hx l
    cases hx
    by_cases h : l' = l
    · subst h; exact .inr ⟨.skip, .skip, by simp [findLabel], by simp [findI], rfl⟩
    · exact .inl ⟨by simp [findLabel, h], by simp [findI, h]⟩
  | _ => intro x hx l; cases reads_of hx <;> exact .inl ⟨rfl, rfl⟩

theorem chain_cases (x : IC) : ∀ ls, chainI x ls = x ∨ ∃ l y ls', findI x l = some y ∧ chainI x ls = .lab l y (chainI x ls')
  | [] => .inl rfl
  | l :: ls => by
    cases h : findI x l with
    | none => simp only [chainI, h]; exact chain_cases x ls
    | some y => exact .inr ⟨l, y, ls, h, by simp only [chainI, h]⟩

theorem Marks.take {μ : List MI} {w : World} {ds : List Deferred} (h : Marks B μ w ds) (n : Nat) : Marks B (μ.take n) w ds := by
  obtain ⟨Ds, h1, h2, h3⟩ := h
  exact ⟨Ds, h1, h2, fun D hD => ⟨(h3 D hD).1, fun hc => (h3 D hD).2.1 (blocks_take hc), (h3 D hD).2.2⟩⟩

/-! #### a block that nobody knows is shut -/
theorem VP.still {M : Nat → Prop} {w w' : World} (hs : w.heap.size ≤ w'.heap.size) (hc : ∀ a x, w.cell? a = some x → w'.cell? a = some x) {v : Value} {e : PV} (h : VP M w v e) : VP M w' v e := by
  induction h with
  | undef v => exact .undef v
  | bool b => exact .bool b
  | int k n => exact .int k n
  | str s => exact .str s
  | agg xs cs h1 _ h3 ih => exact .agg xs cs h1 ih h3
  | tup xs cs h1 _ ih => exact .tup xs cs h1 ih
  | nils => exact .nils
  | list0 sz A cap h => exact .list0 sz A cap h
  | list b off cap sz es c h1 h2 h3 h4 h5 _ ih => exact .list b off cap sz es c h1 (Nat.lt_of_lt_of_le h2 hs) h3 h4 (fun j e he i x hx => ⟨(h5 j e he i x hx).1, hc _ _ (h5 j e he i x hx).2⟩) ih
  | lent b off cap sz es sp c h1 h2 h3 h4 h5 _ ih => exact .lent b off cap sz es sp c h1 (Nat.lt_of_lt_of_le h2 hs) h3 h4 (fun j e he i x hx => ⟨(h5 j e he i x hx).1, hc _ _ (h5 j e he i x hx).2⟩) ih
  | nilp => exact .nilp
  | ptr b off cs c h1 h2 h3 _ ih => exact .ptr b off cs c h1 (Nat.lt_of_lt_of_le h2 hs) (fun j e he => ⟨(h3 j e he).1, hc _ _ (h3 j e he).2⟩) ih
  | fn f => exact .fn f
  | nilf => exact .nilf
  | nilm => exact .nilm
  | nili => exact .nili
  | iface t x v _ ih => exact .iface t x v ih
theorem VA.still {Γ : Ctx} {w w' : World} (hs : w.heap.size ≤ w'.heap.size) (hc : ∀ a x, w.cell? a = some x → w'.cell? a = some x) {v : Value} {a : AV} (h : VA Γ w v a) : VA Γ w' v a := by
  induction h with
  | p v e h => exact .p v e (h.still hs hc)
  | ref r off b h => exact .ref r off b h
  | view0 r g sz n h => exact .view0 r g sz n h
  | view r g sz n b len cap h h1 h2 => exact .view r g sz n b len cap h h1 h2
  | viewOld v r g sz len b g' n h hg h0 => exact .viewOld v r g sz len b g' n h hg h0
  | viewGone v r g sz len h h0 => exact .viewGone v r g sz len h h0
  | elt r g sz n b idx off h => exact .elt r g sz n b idx off h
  | eltOld v r g sz idx off b g' n h hg h0 => exact .eltOld v r g sz idx off b g' n h hg h0
  | eltGone v r g sz idx off h h0 => exact .eltGone v r g sz idx off h h0
  | mapr r b h => exact .mapr r b h
  | maprGone v r h h0 => exact .maprGone v r h h0
  | clos f xs ys as bs h1 h2 _ _ ih1 ih2 => exact .clos f xs ys as bs h1 h2 ih1 ih2
  | agg xs cs h1 _ h3 ih => exact .agg xs cs h1 ih h3
  | tup xs cs h1 _ ih => exact .tup xs cs h1 ih
theorem ObOk.still {Γ : Ctx} {w w' : World} (hs : w.heap.size ≤ w'.heap.size) (hc : ∀ a x, w.cell? a = some x → w'.cell? a = some x) {m : MI} {o : Ob} (h : ObOk Γ w m o) (hb : ∀ b, m.block? = some b → w'.heap[b]? = w.heap[b]?) : ObOk Γ w' m o := by
  cases h with
  | cells b xs t cs h1 h2 h3 => exact .cells b xs t cs ((hb b rfl).trans h1) h2 fun j x c a b => ⟨(h3 j x c a b).1.still hs hc, (h3 j x c a b).2⟩
  | buf0 g sz n => exact .buf0 g sz n
  | buf b g n sz xs t es c h1 h2 h3 h4 => exact .buf b g n sz xs t es c ((hb b rfl).trans h1) h2 h3 fun j e he => ⟨(h4 j e he).1, (h4 j e he).2.1, (h4 j e he).2.2.still hs hc⟩
  | map b clock xs es h1 h2 h3 => exact .map b clock xs es ((hb b rfl).trans h1) h2 fun j x e a c => ⟨(h3 j x e a c).1.still hs hc, (h3 j x e a c).2.still hs hc⟩
  | loop l r ks cs st p h1 h2 h0 h3 => exact .loop l r ks cs st p ((hb l rfl).trans h1) h2 h0 fun j t c a b => (h3 j t c a b).still hs hc
  | gone => exact .gone
theorem put_cell {w : World} {D : Nat} {x : Option (List Deferred)} (h : w.heap[D]? = some (.deferred x)) (o : Obj) (a : Addr) (v : Value) (hc : w.cell? a = some v) : (w.putObj D o).cell? a = some v := by
  have : a.block ≠ D := by
    intro e
    subst e
    simp [World.cell?, h] at hc
  unfold World.cell? at hc ⊢
  rw [World.putObj_heap_other this]
  exact hc
theorem Inv.shut {μ : List MI} {w : World} {ba lo : List Ob} {D : Nat} {x : Option (List Deferred)} (h : Inv μ w ba lo) (hD : ¬ blocks μ D) (hh : w.heap[D]? = some (.deferred x)) (o : Obj) : Inv μ (w.putObj D o) ba lo := by
  have hs : w.heap.size ≤ (w.putObj D o).heap.size := by simp
  have hb : ∀ {i : Nat} {m : MI}, μ[i]? = some m → ∀ b, m.block? = some b → (w.putObj D o).heap[b]? = w.heap[b]? := fun {i m} hm b hb => World.putObj_heap_other fun e => hD (e ▸ ⟨i, m, hm, hb⟩)
  refine ⟨h.len, h.apart, fun i o' ho => ?_, fun k o' ho => ?_⟩
  · obtain ⟨m, h1, h2⟩ := h.bases i o' ho
    exact ⟨m, h1, h2.still hs (put_cell hh o) (hb h1)⟩
  · obtain ⟨m, h1, h2⟩ := h.locs k o' ho
    exact ⟨m, h1, h2.still hs (put_cell hh o) (hb h1)⟩

def shutAll : List Nat → World → World
  | [], w => w
  | D :: r, w => shutAll r (w.putObj D (.deferred none))

/-- At the end of a function: the marks are taken in. -/
theorem Rel.shut : ∀ (Ds : List Nat) {μ0 μ : List MI} {w0 w : World} {a : Act} {fr : FR} {ba lo : List Ob}, Ds.Nodup → (∀ D, D ∈ Ds → w0.heap.size ≤ D ∧ ¬ blocks μ D ∧ w.heap[D]? = some (.deferred (some []))) → Rel N B μ w { a with defers := [] } fr ba lo → Le μ0 w0 μ w →
    Rel N B μ (shutAll Ds w) { a with defers := [] } fr ba lo ∧ Le μ0 w0 μ (shutAll Ds w)
  | [], _, _, _, _, _, _, _, _, _, _, hr, hle => ⟨hr, hle⟩
  | D :: r, μ0, μ, w0, w, a, fr, ba, lo, hn, hD, hr, hle => by
    obtain ⟨g1, g2, g3⟩ := hD D (by simp)
    obtain ⟨n1, n2⟩ := List.nodup_cons.1 hn
    have hs : w.heap.size ≤ (w.putObj D (.deferred none)).heap.size := by simp
    refine Rel.shut r n2 (fun D' hD' => ?_) ⟨hr.inv.shut g2 g3 _, hr.size, Nat.le_trans hr.base hs, .nil, fun t => (hr.vals t).still hs (put_cell g3 _)⟩ ?_
    · obtain ⟨k1, k2, k3⟩ := hD D' (by simp [hD'])
      exact ⟨k1, k2, (World.putObj_heap_other fun (e : D' = D) => n1 (e ▸ hD')).trans k3⟩
    · exact ⟨hle.os, hle.tape, hle.output, hle.above, Nat.le_trans hle.stays.1 hs, fun b hb hm => ⟨(hle.stays.2 b hb hm).1, (World.putObj_heap_other (by omega)).trans (hle.stays.2 b hb hm).2⟩⟩

theorem leaves_marks {F : Fence} {n : Nat} {fn : Func} {tmps : Array Value} {R : Ending → World → Prop} : ∀ (Ds : List Nat) {w : World}, Ds.Nodup → (∀ D, D ∈ Ds → w.heap[D]? = some (.deferred (some []))) → (∃ v, (results fn tmps).run P (shutAll Ds w) = .ok v (shutAll Ds w) ∧ R (.returned v) (shutAll Ds w)) →
    LeavesInM F n P fn tmps R (Ds.map fun D => { target := .collected D, args := #[] }) .returning w
  | [], w, _, _, h => h
  | D :: r, w, hn, hD, h => by
    obtain ⟨n1, n2⟩ := List.nodup_cons.1 hn
    refine ⟨by simp, .inl ⟨D, _, rfl, run_takeDeferred (hD D (by simp)), leaves_marks r n2 (fun D' hD' => ?_) h⟩⟩
    exact (World.putObj_heap_other fun (e : D' = D) => n1 (e ▸ hD')).trans (hD D' (by simp [hD']))

/-- A piece is read right; and so is a piece with its labels ahead of it. -/
def Snd (P : Program) (N B : Nat) (ro : Option Nat) (nd : Nat) (own : List Nat) (ic : IC) : Prop := ∀ (c : Code), compC P N own c = some ic.bare → ∀ {fr : FR} {ba lo : List Ob} {Q : Exit → FR → List Ob → List Ob → Prop}, W P ic fr ba lo Q →
    ∀ {μ : List MI} {w : World} {a : Act}, Rel N B μ w a fr ba lo → c.wpIn (FW ro) nd P (Post N B μ w ba.length Q) a w
def Chn (P : Program) (N B : Nat) (ro : Option Nat) (nd : Nat) (own : List Nat) (ic : IC) : Prop := ∀ (c : Code) (x : IC) (ls : List Nat), compC P N own c = some x → ic.bare = chainI x ls → ∀ {fr : FR} {ba lo : List Ob} {Q : Exit → FR → List Ob → List Ob → Prop}, W P ic fr ba lo Q →
    (∀ l r, findLabel c l = some r → ∀ (fr : FR) (ba2 lo : List Ob), (∀ μ w a, Rel N B μ w a fr ba2 lo → r.wpIn (FW ro) nd P (Post N B μ w ba2.length Q) a w) → Q (.goto l) fr ba2 lo) →
    ∀ {μ : List MI} {w : World} {a : Act}, Rel N B μ w a fr ba lo → c.wpIn (FW ro) nd P (Post N B μ w ba.length Q) a w

theorem both {ro : Option Nat} {nd : Nat} {own : List Nat} {ic : IC} (hn : ∀ l x y, ic = .lab l x y → Snd P N B ro nd own x ∧ Chn P N B ro nd own y) (h : Snd P N B ro nd own ic) : Snd P N B ro nd own ic ∧ Chn P N B ro nd own ic := by
  refine ⟨h, fun c x ls hc hb fr ba lo Q hw hcl μ w a hr => ?_⟩
  rcases chain_cases x ls with e | ⟨l, y, ls', hy, e⟩
  · exact h c (by rw [hb, e]; exact hc) hw hr
  · rw [e] at hb
    cases ic with
    | lab l1 x1 y1 =>
      simp only [IC.bare, IC.lab.injEq] at hb
      obtain ⟨rfl, hx1, hy1⟩ := hb
      obtain ⟨g1, g2⟩ := hn _ _ _ rfl
      refine g2 c x ls' hc hy1 (hw fun fr ba2 lo hx => ?_) hcl hr
      rcases find_comp c x hc l1 with ⟨_, k2⟩ | ⟨r, z, k1, k2, k3⟩
      · rw [hy] at k2; cases k2
      · rw [hy] at k2
        cases k2
        exact hcl l1 r k1 fr ba2 lo fun μ w a hr => g1 r (by rw [hx1]; exact k3) hx hr
    | _ => cases hb

theorem noL {ro : Option Nat} {a b : Bool} (h : ro = none ∨ (a && b) = true) : ro = none ∨ a = true := h.imp id fun h => by simp at h; exact h.1
theorem noE {ro : Option Nat} {a b : Bool} (h : ro = none ∨ (a && b) = true) : ro = none ∨ b = true := h.imp id fun h => by simp at h; exact h.2


/-! #### a range over a function -/
theorem colK_eq : ∀ (fr : FR) (k : List AV → Prop), colK fr k = k (fr.map (·.2))
  | [], k => rfl
  | (t, v) :: r, k => by simp only [colK]; rw [colK_eq r]; rfl
theorem zipK_out : ∀ (ks : List Nat) (cs : List AV) (k : FR → Prop), zipK ks cs k → k (ks.zip cs)
  | [], [], k, h => h
  | t :: ts, v :: vs, k, h => zipK_out ts vs _ h
  | [], _ :: _, k, h => h.elim
  | _ :: _, [], k, h => h.elim
def setPs : List Nat → List PV → FR → FR
  | t :: ts, v :: vs, fr => setPs ts vs (setF fr t (.p v))
  | _, _, fr => fr
theorem setPsK_out : ∀ (ps : List Nat) (pl : List PV) (fr : FR) (k : FR → Prop), setPsK ps pl fr k → ps.length = pl.length ∧ k (setPs ps pl fr)
  | [], [], fr, k, h => ⟨rfl, h⟩
  | t :: ts, v :: vs, fr, k, h => by
    simp only [setPsK, setK_eq] at h
    obtain ⟨h1, h2⟩ := setPsK_out ts vs _ k h
    exact ⟨by simp [h1], h2⟩
  | [], _ :: _, fr, k, h => h.elim
  | _ :: _, [], fr, k, h => h.elim

theorem zip_vals {Γ : Ctx} {w : World} {f : Nat → Value} : ∀ (ks : List Nat) (cs : List AV), (∀ (j t : Nat) (c : AV), ks[j]? = some t → cs[j]? = some c → VA Γ w (f t) c) → ∀ t, VA Γ w (f t) (getF (ks.zip cs) t)
  | [], cs, _, t => .p _ _ (.undef _)
  | _ :: _, [], _, t => .p _ _ (.undef _)
  | u :: ks, c :: cs, h, t => by
    simp only [List.zip_cons_cons, getF]
    cases hb : Nat.beq u t with
    | true => rw [← Nat.eq_of_beq_eq_true hb]; exact h 0 u c rfl rfl
    | false => exact zip_vals ks cs (fun j t' c' h1 h2 => h (j + 1) t' c' h1 h2) t

/-- The loop's variables are set. -/
theorem setPs_vals {Γ : Ctx} {w : World} : ∀ (ps : List Nat) (pl : List PV) (xs : List Value) (tmps : Array Value) (fr : FR), (∀ t, t ∈ ps → t < N) → tmps.size = N → ps.length = pl.length → xs.length = pl.length → (∀ (j : Nat) (x : Value) (e : PV), xs[j]? = some x → pl[j]? = some e → VA Γ w x (.p e)) →
    (∀ t, VA Γ w (tmps.getD t undef) (getF fr t)) → ((ps.zip xs).foldl (fun tmps (p : Nat × Value) => tmps.setIfInBounds p.1 p.2) tmps).size = N ∧ ∀ t, VA Γ w (((ps.zip xs).foldl (fun tmps (p : Nat × Value) => tmps.setIfInBounds p.1 p.2) tmps).getD t undef) (getF (setPs ps pl fr) t)
  | [], [], xs, tmps, fr, _, hs, _, _, _, hv => by cases xs <;> exact ⟨hs, hv⟩
  | p :: ps, e :: pl, x :: xs, tmps, fr, hp, hs, h1, h2, hx, hv => by
    simp only [List.zip_cons_cons, List.foldl_cons, setPs]
    refine setPs_vals ps pl xs _ _ (fun t ht => hp t (by simp [ht])) (by simp [hs]) (by simpa using h1) (by simpa using h2) (fun j y e' g1 g2 => hx (j + 1) y e' g1 g2) fun t => ?_
    rw [get_set]
    by_cases he : p = t
    · subst he
      rw [if_pos rfl]
      have hlt := hp p (by simp)
      have : (tmps.setIfInBounds p x).getD p undef = x := by simp [hs, hlt]
      rw [this]
      exact hx 0 x e rfl rfl
    · rw [if_neg he]
      have : (tmps.setIfInBounds p x).getD t undef = tmps.getD t undef := by simp [Array.getElem?_setIfInBounds_ne he]
      rw [this]
      exact hv t
  | [], _ :: _, _, _, _, _, _, h, _, _, _ => by cases h
  | _ :: _, [], _, _, _, _, _, h, _, _, _ => by cases h
  | _ :: _, _ :: _, [], _, _, _, _, _, h, _, _ => by cases h

theorem loop_at {μ : List MI} {w : World} {ba lo : List Ob} {k l : Nat} {r : Loop} {ks : List Nat} {cs : List AV} {st : LSt} (hi : Inv μ w ba lo) (hk : lo[k]? = some (.loop l r ks cs st)) :
    μ[ba.length + k]? = some (.cells l) ∧ ∃ p, w.heap[l]? = some (.loop { r with state := st.state, pending := p }) ∧ st.pend p ∧ ks.length = cs.length ∧ ∀ (j t : Nat) (c : AV), ks[j]? = some t → cs[j]? = some c → VA ⟨blocks μ, ba.length, μ⟩ w (r.tmps.getD t undef) c := by
  obtain ⟨m, h1, h2⟩ := hi.locs k _ hk
  cases h2 with
  | loop _ _ _ _ _ p g1 g2 g3 g4 => exact ⟨h1, p, g1, g2, g3, g4⟩

/-- The loop's record turns. -/
theorem loop_step {μ : List MI} {w : World} {ba lo : List Ob} {k l : Nat} {r : Loop} {ks : List Nat} {cs : List AV} {st : LSt} (st' : LSt) (p' : Option Code) (hi : Inv μ w ba lo) (hk : lo[k]? = some (.loop l r ks cs st)) (hp : st'.pend p') :
    Inv μ (w.putObj l (.loop { r with state := st'.state, pending := p' })) ba (lo.set k (.loop l r ks cs st')) ∧ Le μ w μ (w.putObj l (.loop { r with state := st'.state, pending := p' })) := by
  obtain ⟨h1, p, h2, h3, h4, h5⟩ := loop_at hi hk
  have hkl := get_lt hk
  have hset : μ.set (ba.length + k) (.cells l) = μ := by
    apply List.ext_getElem?
    intro i
    rw [List.getElem?_set]
    split
    · rename_i e
      subst e
      rw [if_pos (get_lt h1), h1]
    · rfl
  have hlt := (Array.getElem?_eq_some_iff.1 h2).1
  have q := hi.change (w' := w.putObj l (.loop { r with state := st'.state, pending := p' })) (ba' := ba) (lo' := lo.set k (.loop l r ks cs st')) (m' := .cells l) h1 (.refl _) (fun b hb => .inl hb) rfl rfl rfl (by simp) (fun b hb hne => World.putObj_heap_other fun e => hne (by rw [e]; rfl)) rfl (by simp) (fun _ _ => rfl)
    (fun k' hk' => by rw [List.getElem?_set_ne (by omega)]) (fun _ o hlt2 _ => by omega) (fun hle k' o he ho => by
      have : k' = k := by omega
      subst this
      rw [List.getElem?_set] at ho
      simp only [if_true, hkl] at ho
      cases ho
      rw [hset] at hle ⊢
      exact .loop l r ks cs st' p' (World.putObj_heap_same hlt) hp h4 fun j t c hj hc => (h5 j t c hj hc).mono hle.stays hle.above)
  rw [hset] at q
  exact q

/-- THE READING OF A PIECE OF CODE IS RIGHT. -/
theorem W_both {own : List Nat} (hm : P.follows .mixedOrders = true) : ∀ (ic : IC) (ro : Option Nat) (nd : Nat), (ro = none ∨ ic.noR = true) → ∀ {B : Nat}, Snd P N B ro nd own ic ∧ Chn P N B ro nd own ic := by
  intro ic
  have seqs : ∀ (ro : Option Nat) (nd B : Nat) (x y : IC) (f : FR → FR), (∀ {μ w a fr ba lo}, Rel N B μ w a fr ba lo → Rel N B μ w a (f fr) ba lo) → Snd P N B ro nd own x → Snd P N B ro nd own y →
      ∀ (c : Code), compC P N own c = some (.seq x.bare y.bare) → ∀ {fr : FR} {ba lo : List Ob} {Q : Exit → FR → List Ob → List Ob → Prop}, W P x fr ba lo (thenQ (fun fr ba lo => W P y (f fr) ba lo Q) Q) → ∀ {μ : List MI} {w : World} {a : Act}, Rel N B μ w a fr ba lo → c.wpIn (FW ro) nd P (Post N B μ w ba.length Q) a w := by
    intro ro nd B x y f hf ihx ihy c hc fr ba lo Q h μ w a hr
    cases reads_of hc with
    | seq c1 c2 _ _ h1 h2 =>
      refine wpIn_seq (wpIn_mono (ihx c1 h1 h hr) fun e a' w' hp => ?_)
      obtain ⟨μ', fr', ba', lo', g1, g2, g3, g4⟩ := hp
      cases e with
      | normal =>
        refine wpIn_mono (ihy c2 h2 g1 (hf g2)) fun e a'' w'' hp => ?_
        rw [g4] at hp
        exact hp.from g3
      | exit id => exact ⟨μ', fr', ba', lo', g1, g2, g3, g4⟩
      | goto l => exact ⟨μ', fr', ba', lo', g1, g2, g3, g4⟩
      | ret => exact ⟨μ', fr', ba', lo', g1, g2, g3, g4⟩
      | panic ch => exact ⟨μ', fr', ba', lo', g1, g2, g3, g4⟩
      | outgrown => exact ⟨μ', fr', ba', lo', g1, g2, g3, g4⟩
  induction ic with
  | skip =>
    intro ro nd hno B
    refine both (fun _ _ _ e => by cases e) ?_
    intro c hc fr ba lo Q h μ w a hr
    cases reads_of hc
    exact wpIn_skip ⟨μ, fr, ba, lo, h, hr, .refl _ _, rfl⟩
  | ops l =>
    intro ro nd hno B
    refine both (fun _ _ _ e => by cases e) ?_
    intro c hc fr ba lo Q h μ w a hr
    cases reads_of hc with
    | ops id ops _ his =>
      refine wpIn_region ?_
      have := ops_sound (ro := ro) (nd := nd) (Q := Post N B μ w ba.length Q) ops.toList l 0 rfl his h hr fun fr' ba' lo' μ' w' a' g1 g2 g3 g4 => ⟨μ', fr', ba', lo', g1, g2, g3, g4⟩
      rw [List.range_eq_range']
      simpa using this
  | dops l =>
    intro ro nd hno B
    refine both (fun _ _ _ e => by cases e) ?_
    intro c hc fr ba lo Q h μ w a hr
    cases reads_of hc with
    | dops id ops _ his hd =>
      have := dops_sound (ro := ro) (nd := nd) (id := id) (Q := Post N B μ w ba.length Q) his hd hm h hr fun fr' ba' lo' μ' w' a' g1 g2 g3 g4 => ⟨μ', fr', ba', lo', g1, g2, g3, g4⟩
      simpa using this
  | eops l bs =>
    intro ro nd hno B
    refine both (fun _ _ _ e => by cases e) ?_
    intro c hc fr ba lo Q h μ w a hr
    cases reads_of hc with
    | eops id ops _ his hd =>
      have := eops_sound (ro := ro) (nd := nd) (id := id) (Q := Post N B μ w ba.length Q) his hd hm h hr fun fr' ba' lo' μ' w' a' g1 g2 g3 g4 => ⟨μ', fr', ba', lo', g1, g2, g3, g4⟩
      simpa using this
  | seq x y ihx ihy =>
    intro ro nd hno B
    refine both (fun _ _ _ e => by cases e) ?_
    intro c hc fr ba lo Q h μ w a hr
    exact seqs ro nd B x y id (fun h => h) (ihx ro nd (noL hno)).1 (ihy ro nd (noE hno)).1 c hc h hr
  | cut ks x y ihx ihy =>
    intro ro nd hno B
    refine both (fun _ _ _ e => by cases e) ?_
    intro c hc fr ba lo Q h μ w a hr
    refine seqs ro nd B x y (fun fr => ks.map fun t => (t, getF fr t)) (fun h => h.proj ks) (ihx ro nd (noL hno)).1 (ihy ro nd (noE hno)).1 c hc ?_ hr
    simp only [W_cut, projK_eq] at h
    exact h
  | cond r x y ihx ihy =>
    intro ro nd hno B
    refine both (fun _ _ _ e => by cases e) ?_
    intro c hc fr ba lo Q h μ w a hr
    cases reads_of hc with
    | cond o _ c1 c2 _ _ h0 h1 h2 =>
      simp only [W_cond, evK_eq] at h
      split at h
      · rename_i t e
        have hv := hr.eval h0
        rw [e] at hv
        have h := splitB_out h
        refine wpIn_cond hv.bool_inv ?_
        cases t with
        | true => exact (ihx ro nd (noL hno)).1 c1 h1 h hr
        | false => exact (ihy ro nd (noE hno)).1 c2 h2 h hr
      · exact h.elim
  | block id x ihx =>
    intro ro nd hno B
    refine both (fun _ _ _ e => by cases e) ?_
    intro c hc fr ba lo Q h μ w a hr
    cases reads_of hc with
    | block _ c1 _ h1 =>
      refine wpIn_block (wpIn_mono ((ihx ro nd hno).1 c1 h1 h hr) fun e a' w' hp => ?_)
      obtain ⟨μ', fr', ba', lo', g1, g2, g3, g4⟩ := hp
      cases e with
      | exit i =>
        simp only [Exit.inBlock]
        by_cases hi : i = id
        · rw [if_pos hi]
          subst hi
          have g1' : (bif Nat.beq i i then Q .normal else Q (.exit i)) fr' ba' lo' := g1
          have hb : Nat.beq i i = true := by simp
          rw [hb] at g1'
          exact ⟨μ', fr', ba', lo', g1', g2, g3, g4⟩
        · rw [if_neg hi]
          have g1' : (bif Nat.beq i id then Q .normal else Q (.exit i)) fr' ba' lo' := g1
          rw [beq_ne hi] at g1'
          exact ⟨μ', fr', ba', lo', g1', g2, g3, g4⟩
      | normal => exact ⟨μ', fr', ba', lo', g1, g2, g3, g4⟩
      | goto l => exact ⟨μ', fr', ba', lo', g1, g2, g3, g4⟩
      | ret => exact ⟨μ', fr', ba', lo', g1, g2, g3, g4⟩
      | panic ch => exact ⟨μ', fr', ba', lo', g1, g2, g3, g4⟩
      | outgrown => exact ⟨μ', fr', ba', lo', g1, g2, g3, g4⟩
  | loop ks x ihx =>
    intro ro nd hno B
    refine both (fun _ _ _ e => by cases e) ?_
    intro c hc fr ba lo Q h μ w a hr
    cases reads_of hc with
    | loop c1 _ h1 =>
      simp only [W_loop, projK_eq] at h
      refine wp_of_in ?_
      refine h (fun fr' ba' lo' => ba'.length = ba.length → ∀ (μ' : List MI) (w' : World) (a' : Act), Rel N B μ' w' a' fr' ba' lo' → inLoop (FW ro) nd P c1 (Post N B μ' w' ba'.length Q) a' w') ?_ rfl μ w a (hr.proj ks)
      intro fr1 ba1 lo1 h2 hba μ1 w1 a1 hr1
      refine in_round (wpIn_mono ((ihx ro nd hno).1 c1 h1 h2 hr1) fun e a' w' hp => ?_)
      obtain ⟨μ', fr', ba', lo', g1, g2, g3, g4⟩ := hp
      cases e with
      | normal =>
        simp only [thenQ, roundQ, projK_eq] at g1
        split at g1
        · rename_i k0
          simp only [Bool.and_eq_true] at k0
          obtain ⟨k2, k3⟩ := k0
          obtain ⟨k1, k4⟩ := takeK_out _ _ _ g1
          have hn : μ1.length = ba1.length + lo1.length := hr1.inv.len
          have hrel : Rel N B (μ'.take (ba'.length + lo1.length)) w' a' (ks.map fun t => (t, getF fr' t)) ba' (lo'.take lo1.length) :=
            ⟨g2.inv.trunc k1 k3, g2.size, g2.base, g2.defers.take _, fun t => by
              have hst : Stays (blocks μ') w' (blocks (μ'.take (ba'.length + lo1.length))) w' := ⟨Nat.le_refl _, fun b _ hb => ⟨fun hc => hb (blocks_take hc), rfl⟩⟩
              exact ((g2.proj ks).vals t).to_takeN hst (frLowL_get k2 t)⟩
          have hle : Le μ1 w1 (μ'.take (ba'.length + lo1.length)) w' := by
            have := g3.trunc
            rw [hn] at this
            rw [g4]
            exact this
          refine inLoop_mono (k4 (by rw [g4, hba]) _ _ _ hrel) fun e a'' w'' hp => ?_
          have hp2 := hp.from hle
          rw [g4] at hp2
          exact hp2
        · refine inLoop_mono (g1 (by rw [g4, hba]) _ _ _ (g2.proj ks)) fun e a'' w'' hp => ?_
          have hp2 := hp.from g3
          rw [g4] at hp2
          exact hp2
      | exit id => exact ⟨μ', fr', ba', lo', g1, g2, g3, g4⟩
      | goto l => exact ⟨μ', fr', ba', lo', g1, g2, g3, g4⟩
      | ret => exact ⟨μ', fr', ba', lo', g1, g2, g3, g4⟩
      | panic ch => exact ⟨μ', fr', ba', lo', g1, g2, g3, g4⟩
      | outgrown => exact ⟨μ', fr', ba', lo', g1, g2, g3, g4⟩
  | exit id =>
    intro ro nd hno B
    refine both (fun _ _ _ e => by cases e) ?_
    intro c hc fr ba lo Q h μ w a hr
    cases reads_of hc
    exact wpIn_exit ⟨μ, fr, ba, lo, h, hr, .refl _ _, rfl⟩
  | ret =>
    intro ro nd hno B
    refine both (fun _ _ _ e => by cases e) ?_
    intro c hc fr ba lo Q h μ w a hr
    cases reads_of hc
    exact wpIn_ret ⟨μ, fr, ba, lo, h, hr, .refl _ _, rfl⟩
  | bad => exact fun ro nd hno B => both (fun _ _ _ e => by cases e) fun c hc fr ba lo Q h => (show False from h).elim
  | label l =>
    intro ro nd hno B
    refine both (fun _ _ _ e => by cases e) ?_
    intro c hc fr ba lo Q h μ w a hr
    cases reads_of hc
    exact wpIn_label ⟨μ, fr, ba, lo, h, hr, .refl _ _, rfl⟩
  | goto l ks =>
    intro ro nd hno B
    refine both (fun _ _ _ e => by cases e) ?_
    intro c hc fr ba lo Q h μ w a hr
    cases reads_of hc
    replace h : projK ks fr fun fr => Q (.goto l) fr ba lo := h
    rw [projK_eq] at h
    exact wpIn_goto ⟨μ, _, ba, lo, h, hr.proj ks, .refl _ _, rfl⟩
  | lab l x y ihx ihy =>
    intro ro nd hno B
    refine both (fun l' x' y' e => by cases e; exact ⟨(ihx ro nd (noL hno)).1, (ihy ro nd (noE hno)).2⟩) ?_
    intro c hc
    cases reads_of hc
  | scope d ihd =>
    intro ro nd hno B
    refine both (fun _ _ _ e => by cases e) ?_
    intro c hc fr ba lo Q h μ w a hr
    cases reads_of hc with
    | scope c' x _ h1 h2 =>
      replace h : ∀ R : Nat → FR → List Ob → List Ob → Prop, W P d fr ba lo (scopeQ R Q) := h
      let R : Nat → FR → List Ob → List Ob → Prop := fun l fr' ba' lo' => ba'.length = ba.length → ∀ μ' w' a', Rel N B μ' w' a' fr' ba' lo' → ScopeAt (FW ro) nd P c' l (Post N B μ' w' ba.length Q) a' w'
      have conv : ∀ {μ w e a' w'}, Post N B μ w ba.length (scopeQ R Q) e a' w' → Exit.lab (FW ro) nd P c' (Post N B μ w ba.length Q) e a' w' := by
        intro μ w e a' w' hp
        obtain ⟨μ', fr', ba', lo', g1, g2, g3, g4⟩ := hp
        cases e with
        | goto l => exact ((show R l fr' ba' lo' from g1) g4 _ _ _ g2).mono fun e a w hp => hp.from g3
        | normal => exact ⟨μ', fr', ba', lo', g1, g2, g3, g4⟩
        | exit id => exact ⟨μ', fr', ba', lo', g1, g2, g3, g4⟩
        | ret => exact ⟨μ', fr', ba', lo', g1, g2, g3, g4⟩
        | panic ch => exact ⟨μ', fr', ba', lo', g1, g2, g3, g4⟩
        | outgrown => exact ⟨μ', fr', ba', lo', g1, g2, g3, g4⟩
      refine wp_scope_lab (wpIn_mono ((ihd ro nd hno).2 c' x (labelsI x) h1 h2 (h R) (fun l r hf fr ba2 lo2 hyp => ?_) hr) fun e a' w' hp => conv hp)
      intro hlen μ' w' a' hrel
      have q := hyp μ' w' a' hrel
      rw [hlen] at q
      exact at_label hf (wpIn_mono q fun e a w hp => conv hp)

  | rangeF ks x ps p q ihp ihq =>
    intro ro nd hno B
    refine both (fun _ _ _ e => by cases e) ?_
    intro c hc fr ba lo Q h μ w a hr
    have hro : ro = none := by
      rcases hno with h1 | h1
      · exact h1
      · cases h1
    subst hro
    cases reads_of hc with
    | rangeF g _ params assign body _ _ _ hg hcp hcq hps e =>
      subst e
      replace h : rangeS P ks x params.toList (p.noR && q.noR) (W P p) (W P q) fr ba lo Q := h
      simp only [rangeS, projK_eq, evK_eq] at h
      obtain ⟨hnr, h⟩ := h
      rw [colK_eq] at h
      simp only [Bool.and_eq_true] at hnr
      obtain ⟨hnp, hnq⟩ := hnr
      -- the rounds
      have rounds : ∀ (l : Nat) (r : Loop), r.tmps.size = N → r.params = params → r.assign = assign → r.body = body → ∀ (k : Nat) (pl : List PV) (ba' lo' : List Ob) (K : AV → List Ob → List Ob → Prop), roundV k l r params.toList (W P p) (W P q) pl ba' lo' K → YieldVC P l (pl.map .p) ba' lo' K := by
        intro l r hsz hrp hra hrb k pl ba' lo' K hround
        refine ⟨fun n μ2 w2 xs hi2 hx2 => ?_⟩
        unfold roundV at hround
        obtain ⟨o, ho, hround⟩ := atK_out _ _ _ hround
        split at hround
        · rename_i l' r' ks2 cs2
          obtain ⟨⟨e1, e2⟩, hround⟩ := hround
          subst e1; subst e2
          obtain ⟨_, p2, h1, h2, h0, h3⟩ := loop_at hi2 ho
          have h2' : p2 = none := h2
          subst h2'
          obtain ⟨hpl, hround⟩ := setPsK_out _ _ _ _ (zipK_out _ _ _ hround)
          have hsx : xs.size = pl.length := by rw [hx2.1, List.length_map]
          have hpx : xs.size = r'.params.size := by rw [hsx, ← hpl, hrp]; simp
          refine ⟨_, _, _, _, run_yield h1 hpx, roundIn_of_wpIn (F := Fence.wide) trivial ?_⟩
          have hfold : (r'.params.zip xs).foldl (fun tmps (t, a) => tmps.setIfInBounds t a) r'.tmps = (params.toList.zip xs.toList).foldl (fun tmps (p : Nat × Value) => tmps.setIfInBounds p.1 p.2) r'.tmps := by
            rw [hrp, ← Array.foldl_toList]
            simp [Array.toList_zip]
          obtain ⟨v1, v2⟩ := setPs_vals (N := N) (Γ := ⟨blocks μ2, ba'.length, μ2⟩) (w := w2) params.toList pl xs.toList r'.tmps (ks2.zip cs2) hps hsz hpl (by simpa using hsx) (fun j x e g1 g2 => by
            have := hx2.2 j x (.p e) (by simpa using g1) (by rw [List.getElem?_map, g2]; rfl)
            exact this) (zip_vals _ _ h3)
          have hrel2 : Rel N 0 μ2 w2 { tmps := (r'.params.zip xs).foldl (fun tmps (t, a) => tmps.setIfInBounds t a) r'.tmps, defers := [] } (setPs params.toList pl (ks2.zip cs2)) ba' lo' := by
            rw [hfold]
            exact ⟨hi2, v1, Nat.zero_le _, .nil, v2⟩
          show Code.wpIn (FW (some l')) n P r'.assign _ _ _
          refine wpIn_mono ((ihp (some l') n (.inr hnp) (B := 0)).1 r'.assign (by rw [hra]; exact hcp) hround hrel2) fun e a3 w3 hp3 => ?_
          obtain ⟨μ3, fr3, ba3, lo3, g1, g2, g3, g4⟩ := hp3
          cases e with
          | normal =>
            obtain ⟨o3, ho3, g1⟩ := atK_out _ _ _ g1
            split at g1
            · rename_i l3 r3 ks3 cs3
              obtain ⟨⟨e1, e2⟩, g1⟩ := g1
              subst e1; subst e2
              obtain ⟨hlt3, g1⟩ := setAtK_out _ _ _ _ g1
              obtain ⟨_, p3, k1, k2, _, _⟩ := loop_at g2.inv ho3
              have k2' : p3 = none := k2
              subst k2'
              obtain ⟨hi4, hle4⟩ := loop_step .busy none g2.inv ho3 rfl
              refine ⟨_, run_beginRound k1 rfl, ?_⟩
              have hrel4 : Rel N 0 μ3 (w3.putObj l3 (.loop { r3 with state := .busy, pending := none })) a3 fr3 ba3 (lo3.set k (.loop l3 r3 ks3 cs3 .busy)) :=
                ⟨hi4, g2.size, Nat.zero_le _, g2.defers.mono hle4.stays, fun t => (g2.vals t).mono hle4.stays hle4.above⟩
              show Code.wpIn (FW (some l3)) n P r3.body _ _ _
              refine wpIn_mono ((ihq (some l3) n (.inr hnq) (B := 0)).1 r3.body (by rw [hrb]; exact hcq) g1 hrel4) fun e a5 w5 hp5 => ?_
              obtain ⟨μ5, fr5, ba5, lo5, q1, q2, q3, q4⟩ := hp5
              have fin : ∀ (st : LSt) (b : Bool) (jump : Option Code), roundK k l3 r3 st b K ba5 lo5 → b = jump.isNone → st.state = (if jump.isNone then .ready else .done) → st.pend jump →
                  ∃ v w', (Instr.endRound l3 jump).run P w5 = .ok v w' ∧ ∃ v' r μ' ba' lo', Ending.returned v = .returned v' ∧ VA ⟨blocks μ', ba5.length, μ'⟩ w' v' r ∧ Inv μ' w' ba' lo' ∧ Le μ2 w2 μ' w' ∧ ba'.length = ba5.length ∧ K r ba' lo' := by
                intro st b jump hk hb hst hpd
                unfold roundK at hk
                obtain ⟨o5, ho5, hk⟩ := atK_out _ _ _ hk
                split at hk
                · rename_i l5 r5 ks5 cs5
                  obtain ⟨⟨e1, e2⟩, hk⟩ := hk
                  subst e1; subst e2
                  obtain ⟨_, hk⟩ := setAtK_out _ _ _ _ hk
                  obtain ⟨_, p5, s1, s2, _, _⟩ := loop_at q2.inv ho5
                  obtain ⟨hi6, hle6⟩ := loop_step st jump q2.inv ho5 hpd
                  have hend := run_endRound (P := P) jump s1
                  refine ⟨_, _, hend, _, .p (.bool b), μ5, ba5, _, rfl, by rw [hb]; exact .p _ _ (.bool _), ?_, ?_, rfl, hk⟩
                  · rw [hst] at hi6; exact hi6
                  · rw [hst] at hle6; exact (g3.trans hle4).trans (q3.trans hle6)
                · exact hk.elim
              have hlen5 : ba5.length = ba'.length := q4.trans g4
              rw [hlen5] at fin
              cases e with
              | normal => exact fin .ready true none q1 rfl rfl rfl
              | ret => exact fin (.done .ret) false (some .ret) q1 rfl rfl rfl
              | exit i => exact fin (.done (.exit i)) false (some (.exit i)) q1 rfl rfl rfl
              | goto i => exact fin (.done (.goto i)) false (some (.goto i)) q1 rfl rfl rfl
              | panic ch => exact q1.elim
              | outgrown => exact q1.elim
            · exact g1.elim
          | exit id => exact g1.elim
          | goto l => exact g1.elim
          | ret => exact g1.elim
          | panic ch => exact g1.elim
          | outgrown => exact g1.elim
        · exact hround.elim
      refine wpIn_rangeFunc fun fn _ => ?_
      obtain ⟨rc, hrc⟩ : ∃ rc : Loop, rc = { state := .ready, pending := none, fn := fn, tmps := a.tmps, params := params, assign := assign, body := body, defers := w.heap.size } := ⟨_, rfl⟩
      obtain ⟨w1, hw1⟩ : ∃ w1, w1 = (w.alloc (.deferred (some []))).alloc (.loop rc) := ⟨_, rfl⟩
      have hsz1 : w1.heap.size = w.heap.size + 2 := by rw [hw1]; simp
      have hold : ∀ b, b < w.heap.size → w1.heap[b]? = w.heap[b]? := fun b hb => by
        rw [hw1, heap_alloc_old _ _ b (by simp; omega), heap_alloc_old _ _ b hb]
      have hmark : w1.heap[w.heap.size]? = some (.deferred (some [])) := by
        rw [hw1, heap_alloc_old _ _ _ (by simp)]; exact World.alloc_heap_new w _
      have hloop : w1.heap[w.heap.size + 1]? = some (.loop rc) := by
        rw [hw1]; have := World.alloc_heap_new (w.alloc (.deferred (some []))) (.loop rc); rwa [World.size_alloc] at this
      obtain ⟨hi1, hle1, hat1⟩ := hr.inv.push (w' := w1) (.cells (w.heap.size + 1)) (.loop (w.heap.size + 1) rc ks ((ks.map fun t => (t, getF fr t)).map (·.2)) .ready) (fun b hb => by cases hb; omega) (by rw [hw1]; rfl) (by rw [hw1]; rfl) (by rw [hw1]; rfl) (by omega) hold
        (fun hle => .loop _ rc ks _ .ready none (by rw [hloop, hrc]; rfl) rfl (by simp) fun j t c hj hcj => by
          rw [List.getElem?_map, List.getElem?_map, hj] at hcj
          cases hcj
          rw [hrc]
          exact (hr.vals t).mono hle.stays hle.above)
      replace h := h (w.heap.size + 1) rc
      rw [pushK_eq] at h
      replace h := h (rounds (w.heap.size + 1) rc (by rw [hrc]; exact hr.size) (by rw [hrc]) (by rw [hrc]) (by rw [hrc]) lo.length)
      have hDn : ¬ blocks (μ ++ [.cells (w.heap.size + 1)]) w.heap.size := by
        rintro ⟨i, m, hm, hb⟩
        rcases Nat.lt_or_ge i μ.length with hl | hl
        · rw [List.getElem?_append_left hl] at hm
          have := hr.inv.block_lt ⟨i, m, hm, hb⟩
          omega
        · rw [List.getElem?_append_right hl] at hm
          have : i - μ.length = 0 := by have := get_lt hm; simp at this; omega
          rw [this] at hm
          simp at hm
          subst hm
          simp [MI.block?] at hb
      have hmarks1 : Marks B (μ ++ [.cells (w.heap.size + 1)]) w1 ({ target := .collected w.heap.size, args := #[] } :: a.defers) := by
        obtain ⟨Ds, d1, d2, d3⟩ := hr.defers
        refine ⟨w.heap.size :: Ds, by rw [d1]; rfl, List.nodup_cons.2 ⟨fun hc => ?_, d2⟩, fun D hD => ?_⟩
        · have := (Array.getElem?_eq_some_iff.1 (d3 _ hc).2.2).1; omega
        · rcases List.mem_cons.1 hD with rfl | hD
          · exact ⟨hr.base, hDn, hmark⟩
          · obtain ⟨g1, g2, g3⟩ := d3 D hD
            obtain ⟨k1, k2⟩ := hle1.stays.2 D (Array.getElem?_eq_some_iff.1 g3).1 g2
            exact ⟨g1, k1, k2.trans g3⟩
      -- behind the call
      have behind : ∀ (f : Nat) (args : Array Value) (as : List AV), CallVC P f as ba (lo ++ [.loop (w.heap.size + 1) rc ks ((ks.map fun t => (t, getF fr t)).map (·.2)) .ready]) (loopEndK lo.length (w.heap.size + 1) rc Q) → VAs ⟨blocks (μ ++ [.cells (w.heap.size + 1)]), ba.length, μ ++ [.cells (w.heap.size + 1)]⟩ w1 args as →
          CallsIn (FW none) (nd - 1) P f args w1 (rangePost (FW none) nd P (w.heap.size + 1) (Post N B μ w ba.length Q) { a with defers := [{ target := .collected w.heap.size, args := #[] }] ++ a.defers }) := fun f args as hcall hargs => by
        refine (calls_FW none (nd - 1) (hcall.out _ w1 args hi1 hargs)).mono fun e w2 hw2 => ?_
        obtain ⟨v, r, μ2, ba2, lo2, rfl, g1, g2, g3, g4, g5⟩ := hw2
        unfold loopEndK at g5
        obtain ⟨o, ho, g5⟩ := atK_out _ _ _ g5
        split at g5
        · rename_i l' r' ks2 cs2 st
          obtain ⟨⟨e1, e2⟩, g5⟩ := g5
          obtain ⟨hlt, g5⟩ := setAtK_out _ _ _ _ g5
          replace g5 := zipK_out _ _ _ g5
          rw [e1, e2] at ho
          obtain ⟨_, p2, s1, s2, s3, s4⟩ := loop_at g2 ho
          obtain ⟨hi3, hle3⟩ := loop_step .over p2 g2 ho trivial
          have hnb : st ≠ .busy := by intro e; subst e; exact g5
          have hend := run_endLoop (P := P) s1 (by
            show st.state ≠ .busy
            cases st <;> simp [LSt.state] at hnb ⊢)
          have hrel : Rel N B μ2 (w2.putObj (w.heap.size + 1) (.loop { rc with state := .exhausted, pending := p2 })) { a with defers := [{ target := .collected w.heap.size, args := #[] }] ++ a.defers } (ks2.zip cs2) ba2 (lo2.set lo.length (.loop (w.heap.size + 1) rc ks2 cs2 .over)) := by
            refine ⟨hi3, hr.size, ?_, (hmarks1.mono g3.stays).mono hle3.stays, fun t => ?_⟩
            · exact Nat.le_trans hr.base (Nat.le_trans hle1.stays.1 (Nat.le_trans g3.stays.1 hle3.stays.1))
            · have := zip_vals ks2 cs2 s4 t
              rw [hrc] at this
              exact this.mono hle3.stays hle3.above
          have hle : Le μ w μ2 (w2.putObj (w.heap.size + 1) (.loop { rc with state := .exhausted, pending := p2 })) := hle1.trans (g3.trans hle3)
          refine ⟨p2, _, hend, ?_⟩
          cases st with
          | ready =>
            have s2' : p2 = none := s2
            subst s2'
            exact ⟨μ2, _, ba2, _, g5, hrel, hle, g4⟩
          | done e =>
            have s2' : p2 = some (codeOf e) := s2
            subst s2'
            cases e with
            | ret => exact wpIn_ret ⟨μ2, _, ba2, _, g5, hrel, hle, g4⟩
            | exit i => exact wpIn_exit ⟨μ2, _, ba2, _, g5, hrel, hle, g4⟩
            | goto i => exact wpIn_goto ⟨μ2, _, ba2, _, g5, hrel, hle, g4⟩
            | normal => exact g5.elim
            | panic ch => exact g5.elim
            | outgrown => exact g5.elim
          | busy => exact g5.elim
          | over => exact g5.elim
        · exact g5.elim
      have hv := hr.eval hg
      have henter : (Instr.enterLoop fn a.tmps params assign body (FW none).round).run P w = .ok (w.heap.size + 1, [{ target := .collected w.heap.size, args := #[] }]) w1 := by
        rw [hw1, hrc]; exact run_enterLoop_outer _ _ _ _ _
      unfold rangeCallK at h
      split at h
      · rename_i f e1
        obtain ⟨hen, hcall⟩ := h
        rw [e1] at hv
        have hp := hv.pv
        generalize hx : a.eval g = x at hp
        cases hp
        refine ⟨w.heap.size + 1, [{ target := .collected w.heap.size, args := #[] }], w1, { target := .fn (.func f) #[], args := #[.func (.yield (w.heap.size + 1)) #[] #[]] }, w1, f, #[.func (.yield (w.heap.size + 1)) #[] #[]] ++ #[], w1, henter, ?_, fun _ _ => trivial, ?_, fun e => (by cases e), behind f _ _ hcall ⟨rfl, fun j y c hy hcj => ?_⟩⟩
        · simp only [resolve, hx]
          simp [go_sem]
        · simp [invoke, enters_run hen]
        · match j, hy, hcj with
          | 0, hy, hcj => simp at hy hcj; subst hy; subst hcj; exact .p _ _ (.fn _)
      · rename_i f cap e1
        obtain ⟨hen, hcall⟩ := h
        rw [e1] at hv
        generalize hx : a.eval g = x at hv
        cases hv with
        | clos _ xs ys _ _ h1 h2 h3 h4 =>
          have hxs : xs = #[] := by simpa using h1
          subst hxs
          refine ⟨w.heap.size + 1, [{ target := .collected w.heap.size, args := #[] }], w1, { target := .fn (.func f) ys, args := #[.func (.yield (w.heap.size + 1)) #[] #[]] }, w1, f, #[.func (.yield (w.heap.size + 1)) #[] #[]] ++ ys, w1, henter, ?_, fun _ _ => trivial, ?_, fun e => (by cases e), behind f _ _ hcall ⟨by simp [h2]; omega, fun j y c hy hcj => ?_⟩⟩
          · simp only [resolve, hx]
            simp [go_sem]
          · simp [invoke, enters_run hen]
          · cases j with
            | zero =>
              rw [Array.getElem?_append_left (by simp)] at hy
              simp at hy hcj; subst hy; subst hcj; exact .p _ _ (.fn _)
            | succ j =>
              rw [Array.getElem?_append_right (by simp)] at hy
              exact (h4 j y c (by simpa using hy) (by simpa using hcj)).mono hle1.stays hle1.above
      · exact h.elim

/-- THE READING OF A PIECE OF CODE IS RIGHT. -/
theorem W_sound {own : List Nat} (hm : P.follows .mixedOrders = true) (nd : Nat) (ic : IC) (c : Code) (hc : compC P N own c = some ic.bare) {fr : FR} {ba lo : List Ob} {Q : Exit → FR → List Ob → List Ob → Prop} (h : W P ic fr ba lo Q)
    {μ : List MI} {w : World} {a : Act} (hr : Rel N B μ w a fr ba lo) : c.wpIn (FW none) nd P (Post N B μ w ba.length Q) a w := (W_both hm ic none nd (.inl rfl)).1 c hc h hr

/-! #### functions -/

theorem frameOf_get : ∀ (l : List AV) (n t : Nat), getF (frameOf n l) t = if n ≤ t then (l[t - n]?).getD (.p .undef) else .p .undef
  | [], n, t => by simp [frameOf, getF]
  | a :: r, n, t => by
    simp only [frameOf, getF]
    by_cases h : n = t
    · subst h; simp
    · rw [beq_ne h]
      simp only [cond_false]
      rw [frameOf_get r (n + 1) t]
      by_cases h2 : n + 1 ≤ t
      · rw [if_pos h2, if_pos (by omega), show t - n = (t - (n + 1)) + 1 by omega]; rfl
      · rw [if_neg h2, if_neg (by omega)]

/-- What a result's variable holds. -/
def resRun (tmps : Array Value) (r : ResultVar) : Sem Value :=
  match r with
  | .tmp t => pure (tmps.getD t undef)
  | .cell a t => do loadVar t (← asAddr (tmps.getD a undef))

theorem results_eq (fn : Func) (tmps : Array Value) : results fn tmps = (do
    let vs ← fn.results.mapM (resRun tmps)
    pure (if h : vs.size = 1 then vs[0] else .tuple vs)) := by
  unfold results
  congr 2

theorem ressK_out : ∀ (rs : List ResultVar) (irs : List IRes), compR P rs = some irs → ∀ {μ : List MI} {w : World} {a : Act} {fr : FR} {ba lo : List Ob} {K : List AV → Prop}, ressK fr ba lo irs K → Rel N B μ w a fr ba lo →
    ∃ (as : List AV) (vs : List Value), K as ∧ (rs.mapM (resRun a.tmps)).run P w = .ok vs w ∧ vs.length = as.length ∧ ∀ (j : Nat) (x : Value) (c : AV), vs[j]? = some x → as[j]? = some c → VA ⟨blocks μ, ba.length, μ⟩ w x c
  | [], irs, hc, μ, w, a, fr, ba, lo, K, h, hr => by
    cases hc
    exact ⟨[], [], h, rfl, rfl, fun j x c hx => by simp at hx⟩
  | r :: rs, irs, hc, μ, w, a, fr, ba, lo, K, h, hr => by
    have next : ∀ {irs' : List IRes} {v : AV} {c : Value}, compR P rs = some irs' → (resRun a.tmps r).run P w = .ok c w → VA ⟨blocks μ, ba.length, μ⟩ w c v → ressK fr ba lo irs' (fun as => K (v :: as)) →
        ∃ (as : List AV) (vs : List Value), K as ∧ ((r :: rs).mapM (resRun a.tmps)).run P w = .ok vs w ∧ vs.length = as.length ∧ ∀ (j : Nat) (x : Value) (c : AV), vs[j]? = some x → as[j]? = some c → VA ⟨blocks μ, ba.length, μ⟩ w x c := fun {irs' v c} h1 h2 h3 h4 => by
      obtain ⟨as, vs, g1, g2, g3, g4⟩ := ressK_out rs irs' h1 h4 hr
      refine ⟨v :: as, c :: vs, g1, ?_, by simp [g3], fun j x e hx he => ?_⟩
      · simp only [List.mapM_cons, Sem.run_bind, h2, Result.andThen, g2, Sem.run_pure]
      · cases j with
        | zero => simp at hx he; subst hx; subst he; exact h3
        | succ j => exact g4 j x e (by simpa using hx) (by simpa using he)
    cases r with
    | tmp t =>
      simp only [compR] at hc
      obtain ⟨irs', h1, rfl⟩ := map_some hc
      simp only [ressK, resK, getK_eq] at h
      exact next h1 rfl (hr.vals t) h
    | cell t ty =>
      simp only [compR] at hc
      split at hc
      · rename_i n irs' h0 h1
        cases hc
        simp only [ressK, resK, getK_eq] at h
        split at h
        · rename_i m off e
          obtain ⟨o, ho, h⟩ := atK_out _ _ _ h
          split at h
          · rename_i cs
            obtain ⟨hl, h⟩ := dropK_out _ _ _ h
            obtain ⟨v, hk, hrd⟩ := readA_out h0 h
            have hv := hr.vals t
            rw [e] at hv
            obtain ⟨mi, g1, g2⟩ := hr.inv.at_l ho
            obtain ⟨b, xs, t', rfl, g3, g4, g5, g6⟩ := g2.acells
            have g7 := ref_inv hv g1
            obtain ⟨c, g8, g9⟩ := hrd _ w b (0 + off) (g6.drop off)
            rw [Nat.zero_add] at g8
            refine next h1 ?_ g9 hk
            simp only [resRun, Sem.run_bind]
            rw [g7]
            exact g8
          · exact h.elim
        · exact h.elim
      · cases hc

/-! #### what is handed back -/

/-- It stands for the same when the call's own objects are forgotten. -/
def Kept (μ : List MI) (w : World) (n0 : Nat) (a a' : AV) : Prop := ∀ v, VA ⟨blocks μ, n0, μ⟩ w v a → VA ⟨blocks (μ.take n0), n0, μ.take n0⟩ w v a'

theorem stays_take (μ : List MI) (w : World) (n : Nat) : Stays (blocks μ) w (blocks (μ.take n)) w := ⟨Nat.le_refl _, fun b _ hb => ⟨fun hc => hb (blocks_take hc), rfl⟩⟩

theorem frzK_out {μ : List MI} {w : World} {ba lo : List Ob} (hi : Inv μ w ba lo) {a : AV} {K : AV → Prop} (h : frzK lo a K) : ∃ a', K a' ∧ Kept μ w ba.length a a' ∧ (a.scalar = true → a'.scalar = true) := by
  have loc : ∀ {k : Nat} {m : MI} {b : Nat}, Ctx.at ⟨blocks μ, ba.length, μ⟩ (.l k) = some m → m.block? = some b → ¬ blocks (μ.take ba.length) b := fun {k m b} h1 h2 ⟨i, m', h3, h4⟩ => by
    have h1' : μ[ba.length + k]? = some m := h1
    have e := hi.apart i (ba.length + k) m' m b (take_get h3) h1' h4 h2
    have := get_lt h3
    rw [List.length_take] at this
    omega
  have low : ∀ {a : AV}, a.lowL 0 = true → Kept μ w ba.length a a := fun {a} hl v hv => by
    have := hv.to_takeN (n := 0) (stays_take μ w ba.length) hl
    simpa using this
  unfold frzK at h
  split at h
  · exact ⟨_, h, low rfl, fun h => h⟩
  · rename_i m g sz len
    obtain ⟨o, ho, h⟩ := atK_out _ _ _ h
    split at h
    · rename_i g' sz' es
      obtain ⟨⟨rfl, rfl⟩, h⟩ := h
      obtain ⟨mi, h1, h2⟩ := hi.at_l ho
      obtain ⟨mi, h1, h2⟩ := hi.at_l ho
      rcases h with ⟨ys, hl, hys, hk⟩ | ⟨ys, sp, ⟨h0, h00⟩, he, hl, hk⟩
      · refine ⟨_, hk, fun v hv => .p _ _ ?_, fun _ => rfl⟩
        subst hys
        rcases h2.row with ⟨n, rfl, rfl⟩ | ⟨b, xs, t, rfl, h3, h4, h5⟩
        · rcases view_inv hv h1 with ⟨_, rfl, rfl⟩ | ⟨_, _, h6, _⟩
          · simpa using VP.list0 _ none 0 fun _ => rfl
          · cases h6
        · rcases view_inv hv h1 with ⟨h6, _⟩ | ⟨b', cap, h6, rfl, h7, h8⟩
          · cases h6
          · cases h6
            have hr := ((row_at h3 h5).take len).mono (stays_take μ w ba.length)
            have := VP.of_row (cap := cap) hr (loc h1 rfl) (hi.block_lt ⟨_, _, h1, rfl⟩) (by rw [List.length_take]; omega)
            rwa [List.length_take, Nat.min_eq_left hl] at this
      · refine ⟨_, hk, fun v hv => .p _ _ ?_, fun _ => rfl⟩
        subst hl
        rcases h2.row with ⟨n, rfl, rfl⟩ | ⟨b, xs, t, rfl, h3, h4, h5⟩
        · simp at h00
        · rcases view_inv hv h1 with ⟨h6, _⟩ | ⟨b', cap, h6, rfl, h7, h8⟩
          · cases h6
          · cases h6
            have hr := (row_at h3 h5).mono (stays_take μ w ba.length)
            rw [he] at hr
            refine VP.of_lent hr (loc h1 rfl) (hi.block_lt ⟨_, _, h1, rfl⟩) ?_
            rw [← he]
            rw [← h8] at h4
            exact Nat.le_of_mul_le_mul_right h4 h0
    · exact h.elim
  · rename_i m
    obtain ⟨o, ho, h⟩ := atK_out _ _ _ h
    split at h
    · rename_i cs
      rcases allPK_out _ _ _ h with ⟨ps, rfl, hk⟩ | h
      · refine ⟨_, hk, fun v hv => .p _ _ ?_, fun _ => rfl⟩
        obtain ⟨mi, h1, h2⟩ := hi.at_l ho
        obtain ⟨b, xs, t', rfl, g3, g4, g5, c, g6⟩ := h2.acells
        rw [ref_inv hv h1]
        refine VP.of_pcells ⟨c, fun j e he => ?_⟩ (loc h1 rfl) (hi.block_lt ⟨_, _, h1, rfl⟩)
        obtain ⟨k1, k2, k3⟩ := g6 j (.p e) (by rw [List.getElem?_map, he]; rfl)
        exact ⟨k1, k2, k3.pv.mono (stays_take μ w ba.length)⟩
      · exact h.elim
    · exact h.elim
  · exact ⟨_, h, low rfl, fun h => h⟩
  · exact ⟨_, h, low rfl, fun h => h⟩
  · exact ⟨_, h, low rfl, fun h => h⟩
  · exact h.elim

theorem frzsK_out {μ : List MI} {w : World} {ba lo : List Ob} (hi : Inv μ w ba lo) : ∀ (as : List AV) {K : List AV → Prop}, frzsK lo as K → ∃ as', K as' ∧ as.length = as'.length ∧ ∀ (j : Nat) (a a' : AV), as[j]? = some a → as'[j]? = some a' → Kept μ w ba.length a a'
  | [], K, h => ⟨[], h, rfl, fun j a a' e => by simp at e⟩
  | a :: r, K, h => by
    obtain ⟨a1, h, h1, _⟩ := frzK_out hi h
    obtain ⟨as, h, h2, h3⟩ := frzsK_out hi r h
    refine ⟨a1 :: as, h, by simp [h2], fun j x y hx hy => ?_⟩
    cases j with
    | zero => simp at hx hy; subst hx; subst hy; exact h1
    | succ j => exact h3 j x y (by simpa using hx) (by simpa using hy)

theorem frz1K_out {μ : List MI} {w : World} {ba lo : List Ob} (hi : Inv μ w ba lo) {a : AV} {K : AV → Prop} (h : frz1K lo a K) : ∃ a', K a' ∧ Kept μ w ba.length a a' := by
  unfold frz1K at h
  split at h
  · rename_i cs
    obtain ⟨cs', h, h1, h2⟩ := frzsK_out hi cs h
    obtain ⟨a', h3, hk⟩ := mkAggK_out h
    refine ⟨a', hk, fun v hv => ?_⟩
    cases hv with
    | agg xs _ k1 k2 k3 =>
      refine VA.of_agg ⟨by omega, fun j x c hx hc => ?_⟩ k3 h3
      have hj : j < cs.length := by have := get_lt hc; omega
      exact h2 j cs[j] c (List.getElem?_eq_getElem hj) hc x (k2 j x cs[j] hx (List.getElem?_eq_getElem hj))
  · obtain ⟨a', h1, h2, _⟩ := frzK_out hi h
    exact ⟨a', h1, h2⟩

theorem frz1sK_out {μ : List MI} {w : World} {ba lo : List Ob} (hi : Inv μ w ba lo) : ∀ (as : List AV) {K : List AV → Prop}, frz1sK lo as K → ∃ as', K as' ∧ as.length = as'.length ∧ ∀ (j : Nat) (a a' : AV), as[j]? = some a → as'[j]? = some a' → Kept μ w ba.length a a'
  | [], K, h => ⟨[], h, rfl, fun j a a' e => by simp at e⟩
  | a :: r, K, h => by
    obtain ⟨a1, h, h1⟩ := frz1K_out hi h
    obtain ⟨as, h, h2, h3⟩ := frz1sK_out hi r h
    refine ⟨a1 :: as, h, by simp [h2], fun j x y hx hy => ?_⟩
    cases j with
    | zero => simp at hx hy; subst hx; subst hy; exact h1
    | succ j => exact h3 j x y (by simpa using hx) (by simpa using hy)

theorem ret_out {fn : Func} {irs : List IRes} (hc : compR P fn.results.toList = some irs) {μ : List MI} {w : World} {a : Act} {fr : FR} {ba lo : List Ob} {K : AV → List Ob → Prop} (h : retK fr ba lo irs K) (hr : Rel N B μ w a fr ba lo) :
    ∃ v r, (results fn a.tmps).run P w = .ok v w ∧ K r ba ∧ Inv (μ.take ba.length) w ba [] ∧ VA ⟨blocks (μ.take ba.length), ba.length, μ.take ba.length⟩ w v r := by
  obtain ⟨as, vs, h1, h2, h3, h4⟩ := ressK_out _ _ hc h hr
  obtain ⟨as', h5, h6, h7⟩ := frz1sK_out hr.inv as h1
  have hinv : Inv (μ.take ba.length) w ba [] := by simpa using hr.inv.trunc (n := 0) (Nat.zero_le _) rfl
  have hrun : (results fn a.tmps).run P w = .ok (if h : vs.toArray.size = 1 then vs.toArray[0] else .tuple vs.toArray) w := by
    rw [results_eq]
    have : fn.results.mapM (resRun a.tmps) = (do let l ← fn.results.toList.mapM (resRun a.tmps); pure l.toArray) := by
      rw [Array.mapM_eq_mapM_toList]
      rfl
    rw [this]
    simp only [Sem.run_bind, h2, Result.andThen, Sem.run_pure]
  have vals : ∀ (j : Nat) (x : Value) (c : AV), vs[j]? = some x → as'[j]? = some c → VA ⟨blocks (μ.take ba.length), ba.length, μ.take ba.length⟩ w x c := fun j x c hx hcj => by
    have hj : j < as.length := by have := get_lt hcj; omega
    exact h7 j as[j] c (List.getElem?_eq_getElem hj) hcj x (h4 j x as[j] hx (List.getElem?_eq_getElem hj))
  split at h5
  · rename_i r
    have hl : vs.length = 1 := by rw [h3, h6]; rfl
    obtain ⟨v, rfl⟩ := List.length_eq_one_iff.1 hl
    exact ⟨v, r, hrun, h5, hinv, vals 0 v r rfl rfl⟩
  · rename_i h8
    obtain ⟨r, h9, hk⟩ := mkTupK_out h5
    have hl : vs.toArray.size ≠ 1 := by
      intro e
      have e' : as'.length = 1 := by rw [← h6, ← h3]; simpa using e
      obtain ⟨x, rfl⟩ := List.length_eq_one_iff.1 e'
      exact h8 x rfl
    rw [dif_neg hl] at hrun
    exact ⟨_, r, hrun, hk, hinv, VA.of_tup ⟨by simp; omega, fun j x c hx hcj => vals j x c (by simpa using hx) hcj⟩ h9⟩

/-- THE READING OF A FUNCTION IS RIGHT. -/
theorem sound {own : List Nat} {f : Nat} {ir : IF} {args : List AV} {H : List Ob} {Q : AV → List Ob → Prop} (hc : compF P own f = some ir.bare) (h : fnV P ir args H Q) : callA P f args H Q := by
  intro μ w xs hi hx
  unfold compF at hc
  split at hc
  · cases hc
  · rename_i fn hfn
    split at hc
    · cases hc
    · rename_i c hbody
      split at hc
      · rename_i ic rs hic hrs
        split at hc
        · rename_i hcond
          obtain ⟨hpar, _, hm⟩ := hcond
          have hc := Option.some.inj hc
          have e1 : ic = ir.body.bare := congrArg IF.body hc
          have e2 : rs = ir.res := congrArg IF.res hc
          have e3 : fn.params.size + fn.nfree = ir.params := congrArg IF.params hc
          subst e1
          subst e2
          unfold fnV at h
          cases hb : Nat.beq args.length ir.params with
          | false => rw [hb] at h; exact h.elim
          | true =>
            rw [hb] at h
            have hlen : args.length = ir.params := Nat.eq_of_beq_eq_true hb
            have h : W P ir.body (frameOf 0 args) H [] (endQ ir Q) := h
            have hsz : xs.size = args.length := hx.1
            have hrel : Rel fn.ntmps w.heap.size μ w { tmps := xs ++ Array.replicate (fn.ntmps - xs.size) undef, defers := [] } (frameOf 0 args) H [] := by
              refine ⟨hi, by simp; omega, Nat.le_refl _, .nil, fun t => ?_⟩
              rw [frameOf_get, if_pos (Nat.zero_le _), Nat.sub_zero]
              simp only [Array.getD_eq_getD_getElem?]
              rcases Nat.lt_or_ge t args.length with ht | ht
              · rw [Array.getElem?_append_left (by omega), Array.getElem?_eq_getElem (by omega), List.getElem?_eq_getElem ht]
                exact hx.2 t _ _ (Array.getElem?_eq_getElem (by omega)) (List.getElem?_eq_getElem ht)
              · rw [List.getElem?_eq_none (by omega)]
                exact .p _ _ (.undef _)
            refine callsIn_wide.1 (callsIn_of_wp_marks (F := FW none) (n := 0) hfn hbody trivial (wpIn_mono (W_sound hm 0 ir.body c hic h hrel) fun e a' w' hp => ?_))
            obtain ⟨μ', fr', ba', lo', g1, g2, g3, g4⟩ := hp
            have fin : retK fr' ba' lo' ir.res Q → LeavesInM (FW none) 0 P fn a'.tmps (fun e w' => ∃ (v : Value) (r : AV) (H' : List Ob) (μ' : List MI), e = .returned v ∧ Q r H' ∧ Inv μ' w' H' [] ∧ VA ⟨blocks μ', H'.length, μ'⟩ w' v r ∧ Le μ w μ' w') a'.defers .returning w' := fun g1 => by
              obtain ⟨Ds, d1, d2, d3⟩ := g2.defers
              rw [d1]
              refine leaves_marks Ds d2 (fun D hD => (d3 D hD).2.2) ?_
              obtain ⟨q1, q2⟩ := Rel.shut (a := a') Ds d2 d3 ⟨g2.inv, g2.size, g2.base, .nil, g2.vals⟩ g3
              obtain ⟨v, r, k1, k2, k3, k4⟩ := ret_out hrs g1 q1
              refine ⟨v, k1, v, r, ba', _, rfl, k2, k3, k4, ?_⟩
              have hl : ba'.length = μ.length := by rw [g4, hi.len]; rfl
              rw [hl]
              exact q2.trunc
            cases e with
            | normal => exact fin g1
            | ret => exact fin g1
            | exit id => exact g1.elim
            | goto l => exact g1.elim
            | panic ch => exact g1.elim
            | outgrown => exact g1.elim
        · cases hc
      · cases hc

end
end Go.Proofs.Ytkjidklifmcpnaa.AD
