/- A plainer machine, nineteen: pieces of code, loops, functions. -/
import Derived.Test.YthmlninecfjjgaaA18
namespace Go.Proofs.Ythmlninecfjjgaa.AD
set_option linter.unusedVariables false
set_option linter.unusedSimpArgs false

/-- At a loop's head, in a round. -/
def inLoop (P : Program) (c : Code) (Q : Exit → Act → World → Prop) (a : Act) (w : World) : Prop :=
  ∀ (b : Frame) (k : List Item) (cs : List Frame), ∃ e a' w', Q e a' w' ∧ Arrives P (lone (b.at a (.code c :: .inLoop c :: k)) cs w) b k cs e a' w'

theorem in_round {P : Program} {c : Code} {Q : Exit → Act → World → Prop} {a : Act} {w : World} (h : c.wp P (Exit.then (inLoop P c Q) Q) a w) : inLoop P c Q a w := by
  intro b k cs
  obtain ⟨e, a₁, w₁, hq, harr⟩ := h b (.inLoop c :: k) cs
  cases e with
  | normal =>
    obtain ⟨e₂, a₂, w₂, hq₂, harr₂⟩ := hq b k cs
    exact ⟨e₂, a₂, w₂, hq₂, .of_steps (Steps.trans harr (.one step_inLoop)) harr₂⟩
  | exit id => exact ⟨_, a₁, w₁, hq, .pass (x := .inLoop c) rfl (fun _ _ => .inl (by simp)) harr⟩
  | goto l => exact ⟨_, a₁, w₁, hq, .pass (x := .inLoop c) rfl (fun _ _ => .inl (by simp)) harr⟩
  | ret => exact ⟨_, a₁, w₁, hq, .pass (x := .inLoop c) rfl (fun _ _ => .inl (by simp)) harr⟩
  | panic ch => exact ⟨_, a₁, w₁, hq, .pass (x := .inLoop c) rfl (fun _ _ => .inl (by simp)) harr⟩
  | outgrown => exact ⟨_, a₁, w₁, hq, .pass (x := .inLoop c) rfl (fun _ _ => .inl (by simp)) harr⟩

theorem wp_of_in {P : Program} {c : Code} {Q : Exit → Act → World → Prop} {a : Act} {w : World} (h : inLoop P c Q a w) : (Code.loop c).wp P Q a w := by
  intro b k cs
  obtain ⟨e, a', w', hq, harr⟩ := h b k cs
  exact ⟨e, a', w', hq, .of_steps (.one step_loop) harr⟩

theorem inLoop_mono {P : Program} {c : Code} {Q Q' : Exit → Act → World → Prop} {a : Act} {w : World} (h : inLoop P c Q a w) (k : ∀ e a w, Q e a w → Q' e a w) : inLoop P c Q' a w := by
  intro b k' cs
  obtain ⟨e, a', w', hq, harr⟩ := h b k' cs
  exact ⟨e, a', w', k _ _ _ hq, harr⟩

section
variable {P : Program} {N : Nat}

/-- What is reached, and how far that is from where one came from. -/
def Post (N : Nat) (μ : List MI) (w : World) (n0 : Nat) (Q : Exit → FR → List Ob → List Ob → Prop) (e : Exit) (a' : Act) (w' : World) : Prop :=
  ∃ μ' fr' ba' lo', Q e fr' ba' lo' ∧ Rel N μ' w' a' fr' ba' lo' ∧ Le μ w μ' w' ∧ ba'.length = n0

theorem Post.from {μ μ' : List MI} {w w' : World} {n0 : Nat} {Q : Exit → FR → List Ob → List Ob → Prop} {e : Exit} {a : Act} {w'' : World} (h : Post N μ' w' n0 Q e a w'') (hle : Le μ w μ' w') : Post N μ w n0 Q e a w'' := by
  obtain ⟨μ2, fr', ba', lo', h1, h2, h3, h4⟩ := h
  exact ⟨μ2, fr', ba', lo', h1, h2, hle.trans h3, h4⟩

theorem Rel.proj {μ : List MI} {w : World} {a : Act} {fr : FR} {ba lo : List Ob} (h : Rel N μ w a fr ba lo) (ks : List Nat) : Rel N μ w a (ks.map fun t => (t, getF fr t)) ba lo :=
  ⟨h.inv, h.size, h.defers, fun t => by
    rcases get_proj ks fr t with e | e
    · rw [e]; exact h.vals t
    · rw [e]; exact .p _ _ (.undef _)⟩

/-! #### back to fewer objects -/

theorem at_to_takeN {M M' : Nat → Prop} {n0 n : Nat} {μ : List MI} {r : Rf} {m : MI} (hl : r.lowL n = true) (h : Ctx.at ⟨M, n0, μ⟩ r = some m) : Ctx.at ⟨M', n0, μ.take (n0 + n)⟩ r = some m := by
  cases r with
  | l k =>
    have hk : k < n := by
      have : k + 1 ≤ n := by simpa [Rf.lowL, Nat.blt] using hl
      exact this
    simp only [Ctx.at] at h ⊢
    rw [List.getElem?_take, if_pos (by omega)]; exact h
  | b id =>
    simp only [Ctx.at] at h ⊢
    split at h
    · rename_i hlt; rw [if_pos hlt, List.getElem?_take, if_pos (by omega)]; exact h
    · cases h

theorem VA.to_takeN {M M' : Nat → Prop} {n0 n : Nat} {μ : List MI} {w : World} {v : Value} {a : AV} (hs : Stays M w M' w) (h : VA ⟨M, n0, μ⟩ w v a) : a.lowL n = true → VA ⟨M', n0, μ.take (n0 + n)⟩ w v a := by
  generalize hΓ : (⟨M, n0, μ⟩ : Ctx) = Γ at h
  induction h with
  | p v e h => subst hΓ; intro _; exact .p v e (h.mono hs)
  | ref r off b h => subst hΓ; intro hl; simp only [AV.lowL] at hl; exact .ref r off b (at_to_takeN hl h)
  | view0 r g sz n h => subst hΓ; intro hl; simp only [AV.lowL] at hl; exact .view0 r g sz n (at_to_takeN hl h)
  | view r g sz n b len cap h h1 h2 => subst hΓ; intro hl; simp only [AV.lowL] at hl; exact .view r g sz n b len cap (at_to_takeN hl h) h1 h2
  | viewOld v r g sz len b g' n h hg h0 => subst hΓ; intro hl; simp only [AV.lowL] at hl; exact .viewOld v r g sz len b g' n (at_to_takeN hl h) hg h0
  | viewGone v r g sz len h h0 => subst hΓ; intro hl; simp only [AV.lowL] at hl; exact .viewGone v r g sz len (at_to_takeN hl h) h0
  | elt r g sz n b idx off h => subst hΓ; intro hl; simp only [AV.lowL] at hl; exact .elt r g sz n b idx off (at_to_takeN hl h)
  | eltOld v r g sz idx off b g' n h hg h0 => subst hΓ; intro hl; simp only [AV.lowL] at hl; exact .eltOld v r g sz idx off b g' n (at_to_takeN hl h) hg h0
  | eltGone v r g sz idx off h h0 => subst hΓ; intro hl; simp only [AV.lowL] at hl; exact .eltGone v r g sz idx off (at_to_takeN hl h) h0
  | mapr r b h => subst hΓ; intro hl; simp only [AV.lowL] at hl; exact .mapr r b (at_to_takeN hl h)
  | maprGone v r h h0 => subst hΓ; intro hl; simp only [AV.lowL] at hl; exact .maprGone v r (at_to_takeN hl h) h0
  | clos f xs ys as bs h1 h2 _ _ ih1 ih2 =>
    intro hl; simp only [AV.lowL, Bool.and_eq_true] at hl
    exact .clos f xs ys as bs h1 h2 (fun j x c hx hc => ih1 j x c hx hc (lowsL_mem hl.1 c (List.mem_of_getElem? hc))) (fun j x c hx hc => ih2 j x c hx hc (lowsL_mem hl.2 c (List.mem_of_getElem? hc)))
  | agg xs cs h1 _ h3 ih => intro hl; simp only [AV.lowL] at hl; exact .agg xs cs h1 (fun j x c hx hc => ih j x c hx hc (lowsL_mem hl c (List.mem_of_getElem? hc))) h3
  | tup xs cs h1 _ ih => intro hl; simp only [AV.lowL] at hl; exact .tup xs cs h1 (fun j x c hx hc => ih j x c hx hc (lowsL_mem hl c (List.mem_of_getElem? hc)))

theorem obsLowL_get {n : Nat} : ∀ {l : List Ob}, obsLowL n l = true → ∀ (k : Nat) (o : Ob), l[k]? = some o → ∀ cs, o = .cells cs → AV.lowsL n cs = true
  | [], _, k, o, h, _, _ => by simp at h
  | x :: r, h, k, o, ho, cs, e => by
    cases k with
    | zero =>
      simp at ho
      subst ho; subst e
      simp only [obsLowL, Bool.and_eq_true] at h
      exact h.1
    | succ k =>
      have : obsLowL n r = true := by
        cases x <;> simp only [obsLowL, Bool.and_eq_true] at h <;> first | exact h.2 | exact h
      exact obsLowL_get this k o (by simpa using ho) cs e

theorem blocks_take {μ : List MI} {n b : Nat} (h : blocks (μ.take n) b) : blocks μ b := by
  obtain ⟨i, m, h1, h2⟩ := h
  exact ⟨i, m, take_get h1, h2⟩

theorem Inv.trunc {μ : List MI} {w : World} {ba lo : List Ob} (h : Inv μ w ba lo) {n : Nat} (hn : n ≤ lo.length) (hl : obsLowL n (lo.take n) = true) : Inv (μ.take (ba.length + n)) w ba (lo.take n) := by
  have hs : Stays (blocks μ) w (blocks (μ.take (ba.length + n))) w := ⟨Nat.le_refl _, fun b _ hb => ⟨fun hc => hb (blocks_take hc), rfl⟩⟩
  refine ⟨by rw [List.length_take, List.length_take, h.len]; omega, fun i j m m' b h1 h2 => h.apart i j m m' b (take_get h1) (take_get h2), fun i o ho => ?_, fun k o ho => ?_⟩
  · obtain ⟨m, h1, h2⟩ := h.bases i o ho
    have hi := get_lt ho
    refine ⟨m, by rw [List.getElem?_take, if_pos (by omega)]; exact h1, ?_⟩
    rw [List.take_take, Nat.min_eq_left (by omega)]
    exact h2.mono hs (.refl _) fun b _ => rfl
  · have hk := get_lt ho
    rw [List.length_take] at hk
    have ho' := take_get ho
    obtain ⟨m, h1, h2⟩ := h.locs k o ho'
    refine ⟨m, by rw [List.getElem?_take, if_pos (by omega)]; exact h1, ?_⟩
    cases h2 with
    | cells b xs t cs a1 a2 a3 =>
      have hcs := obsLowL_get hl k _ ho cs rfl
      exact .cells b xs t cs a1 a2 fun j x c hx hc => ⟨(a3 j x c hx hc).1.to_takeN hs (lowsL_mem hcs c (List.mem_of_getElem? hc)), (a3 j x c hx hc).2⟩
    | buf0 g sz n => exact .buf0 g sz n
    | buf b g n sz xs t es c a1 a2 a3 a4 => exact .buf b g n sz xs t es c a1 a2 a3 fun j e he => ⟨(a4 j e he).1, (a4 j e he).2.1, (a4 j e he).2.2.mono hs⟩
    | map b clock xs es a1 a2 a3 => exact .map b clock xs es a1 a2 fun j x e hx he => ⟨(a3 j x e hx he).1.mono hs, (a3 j x e hx he).2.mono hs⟩
    | gone => exact .gone

theorem Le.trunc {μ μ' : List MI} {w w' : World} (h : Le μ w μ' w') : Le μ w (μ'.take μ.length) w' :=
  ⟨h.os, h.tape, h.output, fun i m hm => by
    obtain ⟨m', h1, h2⟩ := h.above i m hm
    exact ⟨m', by rw [List.getElem?_take, if_pos (get_lt hm)]; exact h1, h2⟩,
   h.stays.1, fun b hb hm => ⟨fun hc => (h.stays.2 b hb hm).1 (blocks_take hc), (h.stays.2 b hb hm).2⟩⟩

theorem frLowL_get {n : Nat} : ∀ {fr : FR}, frLowL n fr = true → ∀ t, (getF fr t).lowL n = true
  | [], _, t => rfl
  | (u, x) :: r, h, t => by
    simp only [frLowL, Bool.and_eq_true] at h
    simp only [getF]
    cases Nat.beq u t
    · exact frLowL_get h.2 t
    · exact h.1

/-- The code that is read so. -/
inductive Reads (P : Program) (N : Nat) (own : List Nat) : Code → IC → Prop
  | skip : Reads P N own .skip .skip
  | ops (id : Nat) (ops : Array Oper) (is : List IO_) : compOps P N own ops.toList 0 ops.toList = some is → Reads P N own (.region id ops false) (.ops is)
  | dops (id : Nat) (ops : Array Oper) (is : List IO_) : compOps P N own ops.toList 0 ops.toList = some is → drawOk ops.toList is = true → Reads P N own (.region id ops true) (.dops is)
  | seq (a b : Code) (x y : IC) : compC P N own a = some x → compC P N own b = some y → Reads P N own (.seq a b) (.seq x y)
  | cond (o : Operand) (r : Rv) (a b : Code) (x y : IC) : rv o = some r → compC P N own a = some x → compC P N own b = some y → Reads P N own (.cond o a b) (.cond r x y)
  | block (id : Nat) (a : Code) (x : IC) : compC P N own a = some x → Reads P N own (.block id a) (.block id x)
  | loop (a : Code) (x : IC) : compC P N own a = some x → Reads P N own (.loop a) (.loop [] x)
  | exit (id : Nat) : Reads P N own (.exit id) (.exit id)
  | ret : Reads P N own .ret .ret
  | bad (c : Code) : Reads P N own c .bad

theorem reads_of {own : List Nat} {c : Code} {ic : IC} (h : compC P N own c = some ic) : Reads P N own c ic := by
  cases c with
  | skip => cases h; exact .skip
  | region id ops draw =>
    simp only [compC] at h
    split at h
    · rename_i is his
      cases draw with
      | false => simp only [Bool.false_eq_true, if_false] at h; cases h; exact .ops id ops is his
      | true =>
        simp only [if_true] at h
        split at h
        · rename_i hd; cases h; exact .dops id ops is his hd
        · cases h
    · cases h
  | seq a b =>
    simp only [compC] at h
    split at h
    · rename_i x y h1 h2; cases h; exact .seq a b x y h1 h2
    · cases h
  | cond o a b =>
    simp only [compC] at h
    split at h
    · rename_i r x y h1 h2 h3; cases h; exact .cond o r a b x y h1 h2 h3
    · cases h
  | block id a => obtain ⟨x, h1, rfl⟩ := map_some h; exact .block id a x h1
  | loop a => obtain ⟨x, h1, rfl⟩ := map_some h; exact .loop a x h1
  | exit id => cases h; exact .exit id
  | ret => cases h; exact .ret
  | _ => cases h; exact .bad _

/-- THE READING OF A PIECE OF CODE IS RIGHT. -/
theorem W_sound {own : List Nat} (hm : P.follows .mixedOrders = true) : ∀ (ic : IC) (c : Code), compC P N own c = some ic.bare → ∀ {fr : FR} {ba lo : List Ob} {Q : Exit → FR → List Ob → List Ob → Prop}, W P ic fr ba lo Q →
    ∀ {μ : List MI} {w : World} {a : Act}, Rel N μ w a fr ba lo → c.wp P (Post N μ w ba.length Q) a w := by
  intro ic
  have seqs : ∀ (x y : IC) (f : FR → FR), (∀ {μ w a fr ba lo}, Rel N μ w a fr ba lo → Rel N μ w a (f fr) ba lo) → (∀ (c : Code), compC P N own c = some x.bare → ∀ {fr : FR} {ba lo : List Ob} {Q : Exit → FR → List Ob → List Ob → Prop}, W P x fr ba lo Q → ∀ {μ : List MI} {w : World} {a : Act}, Rel N μ w a fr ba lo → c.wp P (Post N μ w ba.length Q) a w) →
      (∀ (c : Code), compC P N own c = some y.bare → ∀ {fr : FR} {ba lo : List Ob} {Q : Exit → FR → List Ob → List Ob → Prop}, W P y fr ba lo Q → ∀ {μ : List MI} {w : World} {a : Act}, Rel N μ w a fr ba lo → c.wp P (Post N μ w ba.length Q) a w) →
      ∀ (c : Code), compC P N own c = some (.seq x.bare y.bare) → ∀ {fr : FR} {ba lo : List Ob} {Q : Exit → FR → List Ob → List Ob → Prop}, W P x fr ba lo (thenQ (fun fr ba lo => W P y (f fr) ba lo Q) Q) → ∀ {μ : List MI} {w : World} {a : Act}, Rel N μ w a fr ba lo → c.wp P (Post N μ w ba.length Q) a w := by
    intro x y f hf ihx ihy c hc fr ba lo Q h μ w a hr
    cases reads_of hc with
    | seq c1 c2 _ _ h1 h2 =>
      refine wp_seq (wp_mono (ihx c1 h1 h hr) fun e a' w' hp => ?_)
      obtain ⟨μ', fr', ba', lo', g1, g2, g3, g4⟩ := hp
      cases e with
      | normal =>
        refine wp_mono (ihy c2 h2 g1 (hf g2)) fun e a'' w'' hp => ?_
        rw [g4] at hp
        exact hp.from g3
      | exit id => exact ⟨μ', fr', ba', lo', g1, g2, g3, g4⟩
      | goto l => exact ⟨μ', fr', ba', lo', g1, g2, g3, g4⟩
      | ret => exact ⟨μ', fr', ba', lo', g1, g2, g3, g4⟩
      | panic ch => exact ⟨μ', fr', ba', lo', g1, g2, g3, g4⟩
      | outgrown => exact ⟨μ', fr', ba', lo', g1, g2, g3, g4⟩
  induction ic with
  | skip =>
    intro c hc fr ba lo Q h μ w a hr
    cases reads_of hc
    exact wp_skip ⟨μ, fr, ba, lo, h, hr, .refl _ _, rfl⟩
  | ops l =>
    intro c hc fr ba lo Q h μ w a hr
    cases reads_of hc with
    | ops id ops _ his =>
      refine wp_region ?_
      have := ops_sound (Q := Post N μ w ba.length Q) ops.toList l 0 rfl his h hr fun fr' ba' lo' μ' w' a' g1 g2 g3 g4 => ⟨μ', fr', ba', lo', g1, g2, g3, g4⟩
      rw [List.range_eq_range']
      simpa using this
  | dops l =>
    intro c hc fr ba lo Q h μ w a hr
    cases reads_of hc with
    | dops id ops _ his hd =>
      have := dops_sound (id := id) (Q := Post N μ w ba.length Q) his hd hm h hr fun fr' ba' lo' μ' w' a' g1 g2 g3 g4 => ⟨μ', fr', ba', lo', g1, g2, g3, g4⟩
      simpa using this
  | seq x y ihx ihy =>
    intro c hc fr ba lo Q h μ w a hr
    exact seqs x y id (fun h => h) (fun c hc => ihx c hc) (fun c hc => ihy c hc) c hc h hr
  | cut ks x y ihx ihy =>
    intro c hc fr ba lo Q h μ w a hr
    refine seqs x y (fun fr => ks.map fun t => (t, getF fr t)) (fun h => h.proj ks) (fun c hc => ihx c hc) (fun c hc => ihy c hc) c hc ?_ hr
    simp only [W_cut, projK_eq] at h
    exact h
  | cond r x y ihx ihy =>
    intro c hc fr ba lo Q h μ w a hr
    cases reads_of hc with
    | cond o _ c1 c2 _ _ h0 h1 h2 =>
      simp only [W_cond, evK_eq] at h
      split at h
      · rename_i t e
        have hv := hr.eval h0
        rw [e] at hv
        have h := splitB_out h
        refine wp_cond hv.bool_inv ?_
        cases t with
        | true => exact ihx c1 h1 h hr
        | false => exact ihy c2 h2 h hr
      · exact h.elim
  | block id x ihx =>
    intro c hc fr ba lo Q h μ w a hr
    cases reads_of hc with
    | block _ c1 _ h1 =>
      refine wp_block (wp_mono (ihx c1 h1 h hr) fun e a' w' hp => ?_)
      obtain ⟨μ', fr', ba', lo', g1, g2, g3, g4⟩ := hp
      cases e with
      | exit i =>
        simp only [Exit.inBlock]
        by_cases hi : i = id
        · rw [if_pos hi]
          subst hi
          have g1' : (bif Nat.beq i i then Q .normal else Q (.exit i)) fr' ba' lo' := g1
          have hb : Nat.beq i i = true := by simp
          rw [hb] at g1'
          exact ⟨μ', fr', ba', lo', g1', g2, g3, g4⟩
        · rw [if_neg hi]
          have g1' : (bif Nat.beq i id then Q .normal else Q (.exit i)) fr' ba' lo' := g1
          rw [beq_ne hi] at g1'
          exact ⟨μ', fr', ba', lo', g1', g2, g3, g4⟩
      | normal => exact ⟨μ', fr', ba', lo', g1, g2, g3, g4⟩
      | goto l => exact ⟨μ', fr', ba', lo', g1, g2, g3, g4⟩
      | ret => exact ⟨μ', fr', ba', lo', g1, g2, g3, g4⟩
      | panic ch => exact ⟨μ', fr', ba', lo', g1, g2, g3, g4⟩
      | outgrown => exact ⟨μ', fr', ba', lo', g1, g2, g3, g4⟩
  | loop ks x ihx =>
    intro c hc fr ba lo Q h μ w a hr
    cases reads_of hc with
    | loop c1 _ h1 =>
      simp only [W_loop, projK_eq] at h
      refine wp_of_in ?_
      refine h (fun fr' ba' lo' => ba'.length = ba.length → ∀ (μ' : List MI) (w' : World) (a' : Act), Rel N μ' w' a' fr' ba' lo' → inLoop P c1 (Post N μ' w' ba'.length Q) a' w') ?_ rfl μ w a (hr.proj ks)
      intro fr1 ba1 lo1 h2 hba μ1 w1 a1 hr1
      refine in_round (wp_mono (ihx c1 h1 h2 hr1) fun e a' w' hp => ?_)
      obtain ⟨μ', fr', ba', lo', g1, g2, g3, g4⟩ := hp
      cases e with
      | normal =>
        simp only [thenQ, roundQ, projK_eq] at g1
        split at g1
        · rename_i k0
          simp only [Bool.and_eq_true] at k0
          obtain ⟨k2, k3⟩ := k0
          obtain ⟨k1, k4⟩ := takeK_out _ _ _ g1
          have hn : μ1.length = ba1.length + lo1.length := hr1.inv.len
          have hrel : Rel N (μ'.take (ba'.length + lo1.length)) w' a' (ks.map fun t => (t, getF fr' t)) ba' (lo'.take lo1.length) :=
            ⟨g2.inv.trunc k1 k3, g2.size, g2.defers, fun t => by
              have hst : Stays (blocks μ') w' (blocks (μ'.take (ba'.length + lo1.length))) w' := ⟨Nat.le_refl _, fun b _ hb => ⟨fun hc => hb (blocks_take hc), rfl⟩⟩
              exact ((g2.proj ks).vals t).to_takeN hst (frLowL_get k2 t)⟩
          have hle : Le μ1 w1 (μ'.take (ba'.length + lo1.length)) w' := by
            have := g3.trunc
            rw [hn] at this
            rw [g4]
            exact this
          refine inLoop_mono (k4 (by rw [g4, hba]) _ _ _ hrel) fun e a'' w'' hp => ?_
          have hp2 := hp.from hle
          rw [g4] at hp2
          exact hp2
        · refine inLoop_mono (g1 (by rw [g4, hba]) _ _ _ (g2.proj ks)) fun e a'' w'' hp => ?_
          have hp2 := hp.from g3
          rw [g4] at hp2
          exact hp2
      | exit id => exact ⟨μ', fr', ba', lo', g1, g2, g3, g4⟩
      | goto l => exact ⟨μ', fr', ba', lo', g1, g2, g3, g4⟩
      | ret => exact ⟨μ', fr', ba', lo', g1, g2, g3, g4⟩
      | panic ch => exact ⟨μ', fr', ba', lo', g1, g2, g3, g4⟩
      | outgrown => exact ⟨μ', fr', ba', lo', g1, g2, g3, g4⟩
  | exit id =>
    intro c hc fr ba lo Q h μ w a hr
    cases reads_of hc
    exact wp_exit ⟨μ, fr, ba, lo, h, hr, .refl _ _, rfl⟩
  | ret =>
    intro c hc fr ba lo Q h μ w a hr
    cases reads_of hc
    exact wp_ret ⟨μ, fr, ba, lo, h, hr, .refl _ _, rfl⟩
  | bad => intro c hc fr ba lo Q h; exact (show False from h).elim

/-! #### functions -/

theorem frameOf_get : ∀ (l : List AV) (n t : Nat), getF (frameOf n l) t = if n ≤ t then (l[t - n]?).getD (.p .undef) else .p .undef
  | [], n, t => by simp [frameOf, getF]
  | a :: r, n, t => by
    simp only [frameOf, getF]
    by_cases h : n = t
    · subst h; simp
    · rw [beq_ne h]
      simp only [cond_false]
      rw [frameOf_get r (n + 1) t]
      by_cases h2 : n + 1 ≤ t
      · rw [if_pos h2, if_pos (by omega), show t - n = (t - (n + 1)) + 1 by omega]; rfl
      · rw [if_neg h2, if_neg (by omega)]

/-- What a result's variable holds. -/
def resRun (tmps : Array Value) (r : ResultVar) : Sem Value :=
  match r with
  | .tmp t => pure (tmps.getD t undef)
  | .cell a t => do loadVar t (← asAddr (tmps.getD a undef))

theorem results_eq (fn : Func) (tmps : Array Value) : results fn tmps = (do
    let vs ← fn.results.mapM (resRun tmps)
    pure (if h : vs.size = 1 then vs[0] else .tuple vs)) := by
  unfold results
  congr 2

theorem ressK_out : ∀ (rs : List ResultVar) (irs : List IRes), compR P rs = some irs → ∀ {μ : List MI} {w : World} {a : Act} {fr : FR} {ba lo : List Ob} {K : List AV → Prop}, ressK fr ba lo irs K → Rel N μ w a fr ba lo →
    ∃ (as : List AV) (vs : List Value), K as ∧ (rs.mapM (resRun a.tmps)).run P w = .ok vs w ∧ vs.length = as.length ∧ ∀ (j : Nat) (x : Value) (c : AV), vs[j]? = some x → as[j]? = some c → VA ⟨blocks μ, ba.length, μ⟩ w x c
  | [], irs, hc, μ, w, a, fr, ba, lo, K, h, hr => by
    cases hc
    exact ⟨[], [], h, rfl, rfl, fun j x c hx => by simp at hx⟩
  | r :: rs, irs, hc, μ, w, a, fr, ba, lo, K, h, hr => by
    have next : ∀ {irs' : List IRes} {v : AV} {c : Value}, compR P rs = some irs' → (resRun a.tmps r).run P w = .ok c w → VA ⟨blocks μ, ba.length, μ⟩ w c v → ressK fr ba lo irs' (fun as => K (v :: as)) →
        ∃ (as : List AV) (vs : List Value), K as ∧ ((r :: rs).mapM (resRun a.tmps)).run P w = .ok vs w ∧ vs.length = as.length ∧ ∀ (j : Nat) (x : Value) (c : AV), vs[j]? = some x → as[j]? = some c → VA ⟨blocks μ, ba.length, μ⟩ w x c := fun {irs' v c} h1 h2 h3 h4 => by
      obtain ⟨as, vs, g1, g2, g3, g4⟩ := ressK_out rs irs' h1 h4 hr
      refine ⟨v :: as, c :: vs, g1, ?_, by simp [g3], fun j x e hx he => ?_⟩
      · simp only [List.mapM_cons, Sem.run_bind, h2, Result.andThen, g2, Sem.run_pure]
      · cases j with
        | zero => simp at hx he; subst hx; subst he; exact h3
        | succ j => exact g4 j x e (by simpa using hx) (by simpa using he)
    cases r with
    | tmp t =>
      simp only [compR] at hc
      obtain ⟨irs', h1, rfl⟩ := map_some hc
      simp only [ressK, resK, getK_eq] at h
      exact next h1 rfl (hr.vals t) h
    | cell t ty =>
      simp only [compR] at hc
      split at hc
      · rename_i n irs' h0 h1
        cases hc
        simp only [ressK, resK, getK_eq] at h
        split at h
        · rename_i m off e
          obtain ⟨o, ho, h⟩ := atK_out _ _ _ h
          split at h
          · rename_i cs
            obtain ⟨hl, h⟩ := dropK_out _ _ _ h
            obtain ⟨v, hk, hrd⟩ := readA_out h0 h
            have hv := hr.vals t
            rw [e] at hv
            obtain ⟨mi, g1, g2⟩ := hr.inv.at_l ho
            obtain ⟨b, xs, t', rfl, g3, g4, g5, g6⟩ := g2.acells
            have g7 := ref_inv hv g1
            obtain ⟨c, g8, g9⟩ := hrd _ w b (0 + off) (g6.drop off)
            rw [Nat.zero_add] at g8
            refine next h1 ?_ g9 hk
            simp only [resRun, Sem.run_bind]
            rw [g7]
            exact g8
          · exact h.elim
        · exact h.elim
      · cases hc

/-! #### what is handed back -/

/-- It stands for the same when the call's own objects are forgotten. -/
def Kept (μ : List MI) (w : World) (n0 : Nat) (a a' : AV) : Prop := ∀ v, VA ⟨blocks μ, n0, μ⟩ w v a → VA ⟨blocks (μ.take n0), n0, μ.take n0⟩ w v a'

theorem stays_take (μ : List MI) (w : World) (n : Nat) : Stays (blocks μ) w (blocks (μ.take n)) w := ⟨Nat.le_refl _, fun b _ hb => ⟨fun hc => hb (blocks_take hc), rfl⟩⟩

theorem frzK_out {μ : List MI} {w : World} {ba lo : List Ob} (hi : Inv μ w ba lo) {a : AV} {K : AV → Prop} (h : frzK lo a K) : ∃ a', K a' ∧ Kept μ w ba.length a a' ∧ (a.scalar = true → a'.scalar = true) := by
  have loc : ∀ {k : Nat} {m : MI} {b : Nat}, Ctx.at ⟨blocks μ, ba.length, μ⟩ (.l k) = some m → m.block? = some b → ¬ blocks (μ.take ba.length) b := fun {k m b} h1 h2 ⟨i, m', h3, h4⟩ => by
    have h1' : μ[ba.length + k]? = some m := h1
    have e := hi.apart i (ba.length + k) m' m b (take_get h3) h1' h4 h2
    have := get_lt h3
    rw [List.length_take] at this
    omega
  have low : ∀ {a : AV}, a.lowL 0 = true → Kept μ w ba.length a a := fun {a} hl v hv => by
    have := hv.to_takeN (n := 0) (stays_take μ w ba.length) hl
    simpa using this
  unfold frzK at h
  split at h
  · exact ⟨_, h, low rfl, fun h => h⟩
  · rename_i m g sz len
    obtain ⟨o, ho, h⟩ := atK_out _ _ _ h
    split at h
    · rename_i g' sz' es
      obtain ⟨⟨rfl, rfl⟩, h⟩ := h
      obtain ⟨mi, h1, h2⟩ := hi.at_l ho
      obtain ⟨mi, h1, h2⟩ := hi.at_l ho
      rcases h with ⟨ys, hl, hys, hk⟩ | ⟨ys, sp, ⟨h0, h00⟩, he, hl, hk⟩
      · refine ⟨_, hk, fun v hv => .p _ _ ?_, fun _ => rfl⟩
        subst hys
        rcases h2.row with ⟨n, rfl, rfl⟩ | ⟨b, xs, t, rfl, h3, h4, h5⟩
        · rcases view_inv hv h1 with ⟨_, rfl, rfl⟩ | ⟨_, _, h6, _⟩
          · simpa using VP.list0 _ none 0 fun _ => rfl
          · cases h6
        · rcases view_inv hv h1 with ⟨h6, _⟩ | ⟨b', cap, h6, rfl, h7, h8⟩
          · cases h6
          · cases h6
            have hr := ((row_at h3 h5).take len).mono (stays_take μ w ba.length)
            have := VP.of_row (cap := cap) hr (loc h1 rfl) (hi.block_lt ⟨_, _, h1, rfl⟩) (by rw [List.length_take]; omega)
            rwa [List.length_take, Nat.min_eq_left hl] at this
      · refine ⟨_, hk, fun v hv => .p _ _ ?_, fun _ => rfl⟩
        subst hl
        rcases h2.row with ⟨n, rfl, rfl⟩ | ⟨b, xs, t, rfl, h3, h4, h5⟩
        · simp at h00
        · rcases view_inv hv h1 with ⟨h6, _⟩ | ⟨b', cap, h6, rfl, h7, h8⟩
          · cases h6
          · cases h6
            have hr := (row_at h3 h5).mono (stays_take μ w ba.length)
            rw [he] at hr
            refine VP.of_lent hr (loc h1 rfl) (hi.block_lt ⟨_, _, h1, rfl⟩) ?_
            rw [← he]
            rw [← h8] at h4
            exact Nat.le_of_mul_le_mul_right h4 h0
    · exact h.elim
  · rename_i m
    obtain ⟨o, ho, h⟩ := atK_out _ _ _ h
    split at h
    · rename_i cs
      rcases allPK_out _ _ _ h with ⟨ps, rfl, hk⟩ | h
      · refine ⟨_, hk, fun v hv => .p _ _ ?_, fun _ => rfl⟩
        obtain ⟨mi, h1, h2⟩ := hi.at_l ho
        obtain ⟨b, xs, t', rfl, g3, g4, g5, c, g6⟩ := h2.acells
        rw [ref_inv hv h1]
        refine VP.of_pcells ⟨c, fun j e he => ?_⟩ (loc h1 rfl) (hi.block_lt ⟨_, _, h1, rfl⟩)
        obtain ⟨k1, k2, k3⟩ := g6 j (.p e) (by rw [List.getElem?_map, he]; rfl)
        exact ⟨k1, k2, k3.pv.mono (stays_take μ w ba.length)⟩
      · exact h.elim
    · exact h.elim
  · exact ⟨_, h, low rfl, fun h => h⟩
  · exact ⟨_, h, low rfl, fun h => h⟩
  · exact ⟨_, h, low rfl, fun h => h⟩
  · exact h.elim

theorem frzsK_out {μ : List MI} {w : World} {ba lo : List Ob} (hi : Inv μ w ba lo) : ∀ (as : List AV) {K : List AV → Prop}, frzsK lo as K → ∃ as', K as' ∧ as.length = as'.length ∧ ∀ (j : Nat) (a a' : AV), as[j]? = some a → as'[j]? = some a' → Kept μ w ba.length a a'
  | [], K, h => ⟨[], h, rfl, fun j a a' e => by simp at e⟩
  | a :: r, K, h => by
    obtain ⟨a1, h, h1, _⟩ := frzK_out hi h
    obtain ⟨as, h, h2, h3⟩ := frzsK_out hi r h
    refine ⟨a1 :: as, h, by simp [h2], fun j x y hx hy => ?_⟩
    cases j with
    | zero => simp at hx hy; subst hx; subst hy; exact h1
    | succ j => exact h3 j x y (by simpa using hx) (by simpa using hy)

theorem frz1K_out {μ : List MI} {w : World} {ba lo : List Ob} (hi : Inv μ w ba lo) {a : AV} {K : AV → Prop} (h : frz1K lo a K) : ∃ a', K a' ∧ Kept μ w ba.length a a' := by
  unfold frz1K at h
  split at h
  · rename_i cs
    obtain ⟨cs', h, h1, h2⟩ := frzsK_out hi cs h
    obtain ⟨a', h3, hk⟩ := mkAggK_out h
    refine ⟨a', hk, fun v hv => ?_⟩
    cases hv with
    | agg xs _ k1 k2 k3 =>
      refine VA.of_agg ⟨by omega, fun j x c hx hc => ?_⟩ k3 h3
      have hj : j < cs.length := by have := get_lt hc; omega
      exact h2 j cs[j] c (List.getElem?_eq_getElem hj) hc x (k2 j x cs[j] hx (List.getElem?_eq_getElem hj))
  · obtain ⟨a', h1, h2, _⟩ := frzK_out hi h
    exact ⟨a', h1, h2⟩

theorem frz1sK_out {μ : List MI} {w : World} {ba lo : List Ob} (hi : Inv μ w ba lo) : ∀ (as : List AV) {K : List AV → Prop}, frz1sK lo as K → ∃ as', K as' ∧ as.length = as'.length ∧ ∀ (j : Nat) (a a' : AV), as[j]? = some a → as'[j]? = some a' → Kept μ w ba.length a a'
  | [], K, h => ⟨[], h, rfl, fun j a a' e => by simp at e⟩
  | a :: r, K, h => by
    obtain ⟨a1, h, h1⟩ := frz1K_out hi h
    obtain ⟨as, h, h2, h3⟩ := frz1sK_out hi r h
    refine ⟨a1 :: as, h, by simp [h2], fun j x y hx hy => ?_⟩
    cases j with
    | zero => simp at hx hy; subst hx; subst hy; exact h1
    | succ j => exact h3 j x y (by simpa using hx) (by simpa using hy)

theorem ret_out {fn : Func} {irs : List IRes} (hc : compR P fn.results.toList = some irs) {μ : List MI} {w : World} {a : Act} {fr : FR} {ba lo : List Ob} {K : AV → List Ob → Prop} (h : retK fr ba lo irs K) (hr : Rel N μ w a fr ba lo) :
    ∃ v r, (results fn a.tmps).run P w = .ok v w ∧ K r ba ∧ Inv (μ.take ba.length) w ba [] ∧ VA ⟨blocks (μ.take ba.length), ba.length, μ.take ba.length⟩ w v r := by
  obtain ⟨as, vs, h1, h2, h3, h4⟩ := ressK_out _ _ hc h hr
  obtain ⟨as', h5, h6, h7⟩ := frz1sK_out hr.inv as h1
  have hinv : Inv (μ.take ba.length) w ba [] := by simpa using hr.inv.trunc (n := 0) (Nat.zero_le _) rfl
  have hrun : (results fn a.tmps).run P w = .ok (if h : vs.toArray.size = 1 then vs.toArray[0] else .tuple vs.toArray) w := by
    rw [results_eq]
    have : fn.results.mapM (resRun a.tmps) = (do let l ← fn.results.toList.mapM (resRun a.tmps); pure l.toArray) := by
      rw [Array.mapM_eq_mapM_toList]
      rfl
    rw [this]
    simp only [Sem.run_bind, h2, Result.andThen, Sem.run_pure]
  have vals : ∀ (j : Nat) (x : Value) (c : AV), vs[j]? = some x → as'[j]? = some c → VA ⟨blocks (μ.take ba.length), ba.length, μ.take ba.length⟩ w x c := fun j x c hx hcj => by
    have hj : j < as.length := by have := get_lt hcj; omega
    exact h7 j as[j] c (List.getElem?_eq_getElem hj) hcj x (h4 j x as[j] hx (List.getElem?_eq_getElem hj))
  split at h5
  · rename_i r
    have hl : vs.length = 1 := by rw [h3, h6]; rfl
    obtain ⟨v, rfl⟩ := List.length_eq_one_iff.1 hl
    exact ⟨v, r, hrun, h5, hinv, vals 0 v r rfl rfl⟩
  · rename_i h8
    obtain ⟨r, h9, hk⟩ := mkTupK_out h5
    have hl : vs.toArray.size ≠ 1 := by
      intro e
      have e' : as'.length = 1 := by rw [← h6, ← h3]; simpa using e
      obtain ⟨x, rfl⟩ := List.length_eq_one_iff.1 e'
      exact h8 x rfl
    rw [dif_neg hl] at hrun
    exact ⟨_, r, hrun, hk, hinv, VA.of_tup ⟨by simp; omega, fun j x c hx hcj => vals j x c (by simpa using hx) hcj⟩ h9⟩

/-- THE READING OF A FUNCTION IS RIGHT. -/
theorem sound {own : List Nat} {f : Nat} {ir : IF} {args : List AV} {H : List Ob} {Q : AV → List Ob → Prop} (hc : compF P own f = some ir.bare) (h : fnV P ir args H Q) : callA P f args H Q := by
  intro μ w xs hi hx
  unfold compF at hc
  split at hc
  · cases hc
  · rename_i fn hfn
    split at hc
    · cases hc
    · rename_i c hbody
      split at hc
      · rename_i ic rs hic hrs
        split at hc
        · rename_i hcond
          obtain ⟨hpar, _, hm⟩ := hcond
          have hc := Option.some.inj hc
          have e1 : ic = ir.body.bare := congrArg IF.body hc
          have e2 : rs = ir.res := congrArg IF.res hc
          have e3 : fn.params.size + fn.nfree = ir.params := congrArg IF.params hc
          subst e1
          subst e2
          unfold fnV at h
          cases hb : Nat.beq args.length ir.params with
          | false => rw [hb] at h; exact h.elim
          | true =>
            rw [hb] at h
            have hlen : args.length = ir.params := Nat.eq_of_beq_eq_true hb
            have h : W P ir.body (frameOf 0 args) H [] (endQ ir Q) := h
            have hsz : xs.size = args.length := hx.1
            have hrel : Rel fn.ntmps μ w { tmps := xs ++ Array.replicate (fn.ntmps - xs.size) undef, defers := [] } (frameOf 0 args) H [] := by
              refine ⟨hi, by simp; omega, rfl, fun t => ?_⟩
              rw [frameOf_get, if_pos (Nat.zero_le _), Nat.sub_zero]
              simp only [Array.getD_eq_getD_getElem?]
              rcases Nat.lt_or_ge t args.length with ht | ht
              · rw [Array.getElem?_append_left (by omega), Array.getElem?_eq_getElem (by omega), List.getElem?_eq_getElem ht]
                exact hx.2 t _ _ (Array.getElem?_eq_getElem (by omega)) (List.getElem?_eq_getElem ht)
              · rw [List.getElem?_eq_none (by omega)]
                exact .p _ _ (.undef _)
            refine calls_of_wp hfn hbody (wp_mono (W_sound hm ir.body c hic h hrel) fun e a' w' hp => ?_)
            obtain ⟨μ', fr', ba', lo', g1, g2, g3, g4⟩ := hp
            have fin : retK fr' ba' lo' ir.res Q → a'.defers = [] ∧ ∃ v, (results fn a'.tmps).run P w' = .ok v w' ∧ ∃ (v' : Value) (r : AV) (H' : List Ob) (μ'' : List MI), Ending.returned v = .returned v' ∧ Q r H' ∧ Inv μ'' w' H' [] ∧ VA ⟨blocks μ'', H'.length, μ''⟩ w' v' r ∧ Le μ w μ'' w' := fun g1 => by
              obtain ⟨v, r, k1, k2, k3, k4⟩ := ret_out hrs g1 g2
              refine ⟨g2.defers, v, k1, v, r, ba', _, rfl, k2, k3, k4, ?_⟩
              have hl : ba'.length = μ.length := by rw [g4, hi.len]; rfl
              rw [hl]
              exact g3.trunc
            cases e with
            | normal => exact fin g1
            | ret => exact fin g1
            | exit id => exact g1.elim
            | goto l => exact g1.elim
            | panic ch => exact g1.elim
            | outgrown => exact g1.elim
        · cases hc
      · cases hc

end
end Go.Proofs.Ythmlninecfjjgaa.AD
