/- A plainer machine, twenty-eight: a function with one deferred call, which recovers. -/
import Derived.Test.YtgdimfogijfmiaaDoorG4
import Derived.RecoverIn
namespace Go.Proofs.YtgdimfogijfmiaaDoor.AD
set_option linter.unusedVariables false
set_option linter.unusedSimpArgs false
set_option linter.unusedSectionVars false
section
variable {P : Program}

theorem collect_steps {F : Fence} {n : Nat} : ∀ (Ds : List Nat) {fr : Frame} {cs : List Frame} {w : World}, fr.defers = Ds.map (fun D => { target := .collected D, args := #[] }) → fr.mode ≠ .run → F.fn fr.fn → F.room (cs.length + 1 + n) → Ds.Nodup → (∀ D, D ∈ Ds → w.heap[D]? = some (.deferred (some []))) →
    StepsIn (Machine.fenced P F) P (lone fr cs w) (lone { fr with defers := [] } cs (shutAll Ds w))
  | [], fr, cs, w, hd, hm, hF, hr, _, _ => by
    have : ({ fr with defers := [] } : Frame) = fr := by cases fr; simp at hd; subst hd; rfl
    rw [this]; exact StepsIn.refl _
  | D :: r, fr, cs, w, hd, hm, hF, hr, hn, hD => by
    obtain ⟨n1, n2⟩ := List.nodup_cons.1 hn
    have h1 := step_collected (P := P) (cs := cs) hm hd rfl (run_takeDeferred (hD D (by simp)))
    have i1 : (lone fr cs w).fenced P F := fenced_out hF hr hm hd (fun g hg => by simp [Target.leads] at hg)
    have h2 := collect_steps (F := F) (n := n) r (fr := { fr with defers := [] ++ r.map (fun D => { target := .collected D, args := #[] }) }) (cs := cs) (w := w.putObj D (.deferred none)) rfl hm hF hr n2 fun D' hD' => (World.putObj_heap_other fun (e : D' = D) => n1 (e ▸ hD')).trans (hD D' (by simp [hD']))
    exact StepsIn.trans (.one i1 h1) h2

def bodyPostR (P : Program) (fn : Func) (c₀ : Frame) (cs : List Frame) (R : Value → FrameMode → World → Prop) : Exit → Act → List Frame → World → Prop
  | .normal, a, cs', w | .ret, a, cs', w =>
    ∃ Ds : List Nat, a.defers = Ds.map (fun D => { target := .collected D, args := #[] }) ∧ Ds.Nodup ∧ (∀ D, D ∈ Ds → w.heap[D]? = some (.deferred (some []))) ∧ ∃ u', cs' = { c₀ with mode := u' } :: cs ∧ ∃ v, (results fn a.tmps).run P (shutAll Ds w) = .ok v (shutAll Ds w) ∧ R v u' (shutAll Ds w)
  | _, _, _, _ => False

theorem callsDIn_marks {F : Fence} {n : Nat} {f : FuncId} {fn : Func} {c : Code} {args : Array Value} {u : FrameMode} {w : World} {R : Value → FrameMode → World → Prop}
    (hf : P.funcs[f]? = some fn) (hb : fn.body = some c) (hF : F.fn f)
    (h : ∀ (c₀ : Frame) (cs : List Frame), c₀.mode = u →
      c.wpSIn F n P (bodyPostR P fn c₀ cs R) { tmps := args ++ Array.replicate (fn.ntmps - args.size) undef, defers := [] } (c₀ :: cs) w) :
    CallsDIn F n P f args u w fun e u' w' => ∃ v, e = .returned v ∧ R v u' w' := by
  refine ⟨hF, fun c₀ cs hu hroom => ?_⟩
  let b : Frame := { (default : Frame) with fn := f, kind := .deferred, roundOf := none }
  have henter : Frame.enter P f args .deferred =
      b.atR { tmps := args ++ Array.replicate (fn.ntmps - args.size) undef, defers := [] } [.code c] := by
    simp [Frame.enter, Frame.atR, hf, hb, b]
  obtain ⟨e, a', cs', w', hl, hq, harr⟩ := h c₀ cs hu b [] rfl rfl hF hroom
  rw [← henter] at harr
  cases e with
  | normal =>
    obtain ⟨Ds, hd, hn, hD, u', rfl, v, hr, hR⟩ := hq
    have s2 := collect_steps (P := P) (F := F) (n := n) Ds (fr := { b.atR a' [] with mode := .returning }) (cs := { c₀ with mode := u' } :: cs) hd (by simp) hF hroom hn hD
    exact ⟨.returned v, u', _, _, ⟨v, rfl, hR⟩, StepsIn.trans harr (StepsIn.trans (.one (fenced_calm (fr := b.atR a' []) hF hroom rfl) (stepR_end rfl)) s2), rfl, rfl, rfl, rfl, fn, hf, hr⟩
  | ret =>
    obtain ⟨Ds, hd, hn, hD, u', rfl, v, hr, hR⟩ := hq
    obtain ⟨todo, hs⟩ := harr.1 rfl
    have s2 := collect_steps (P := P) (F := F) (n := n) Ds (fr := { b.atR a' todo with mode := .returning }) (cs := { c₀ with mode := u' } :: cs) hd (by simp) hF hroom hn hD
    exact ⟨.returned v, u', _, _, ⟨v, rfl, hR⟩, StepsIn.trans hs s2, rfl, rfl, rfl, rfl, fn, hf, hr⟩
  | panic chain => exact hq.elim
  | exit id => exact hq.elim
  | goto l => exact hq.elim
  | outgrown => exact hq.elim

theorem leaves_marksT {F : Fence} {n : Nat} {fn : Func} {tmps : Array Value} {R : Ending → World → Prop} {T : List Deferred} {u : FrameMode} (hu : u ≠ .run) : ∀ (Ds : List Nat) {w : World}, Ds.Nodup → (∀ D, D ∈ Ds → w.heap[D]? = some (.deferred (some []))) → LeavesInM F n P fn tmps R T u (shutAll Ds w) →
    LeavesInM F n P fn tmps R (Ds.map (fun D => { target := .collected D, args := #[] }) ++ T) u w
  | [], w, _, _, h => h
  | D :: r, w, hn, hD, h => by
    obtain ⟨n1, n2⟩ := List.nodup_cons.1 hn
    refine ⟨hu, .inl ⟨D, _, rfl, run_takeDeferred (hD D (by simp)), leaves_marksT hu r n2 (fun D' hD' => ?_) h⟩⟩
    exact (World.putObj_heap_other fun (e : D' = D) => n1 (e ▸ hD')).trans (hD D' (by simp [hD']))

/-! ### how such functions are read -/
def headsC : Nat → Code → List Code
  | n + 1, .seq a b => a :: headsC n b
  | _, _ => []
def tailC : Nat → Code → Code
  | n + 1, .seq _ b => tailC n b
  | _, c => c
def compCs (P : Program) (N : Nat) (own : List Nat) : List Code → Option (List IC)
  | [] => some []
  | c :: r => match compC P N own c, compCs P N own r with
    | some x, some l => some (x :: l)
    | _, _ => none
structure DF where
  params : Nat
  res : List IRes
  pre : List IC
  t : Nat
  g : Nat
  cap : List Rv
  post : IC
def dferOps (N : Nat) : List Oper → Option (Nat × Nat × List Rv)
  | [o1, o2] => match o1.dst, o1.op, o1.guard, o2.op, o2.guard with
    | some t, .makeFunc (.func g) fs cap, none, .defer c, none => match c.callee, rvs cap.toList, o2.dst with
      | .value (.tmp t'), some cs, none => if t = t' ∧ fs.toList.length = 0 ∧ c.args.toList.length = 0 ∧ t < N then some (t, g, cs) else none
      | _, _, _ => none
    | _, _, _, _, _ => none
  | _ => none
def compDF (P : Program) (own : List Nat) (f n : Nat) : Option DF :=
  match P.funcs[f]? with
  | none => none
  | some fn => match fn.body with
    | none => none
    | some c => match tailC n c with
      | .seq (.region _ ops false) r => match compCs P fn.ntmps own (headsC n c), dferOps fn.ntmps ops.toList, compC P fn.ntmps own r, compR P fn.results.toList with
        | some l, some (t, g, cs), some post, some rs => if fn.params.size + fn.nfree ≤ fn.ntmps ∧ P.follows .mixedOrders = true ∧ enters P g = true then some ⟨fn.params.size + fn.nfree, rs, l, t, g, cs, post⟩ else none
        | _, _, _, _ => none
      | _ => none
structure RF where
  params : Nat
  a : Nat
  b : Nat
  body : IC
def recOps (N : Nat) : List Oper → Option (Nat × Nat)
  | [o1, o2] => match o1.dst, o1.op, o1.guard, o2.dst, o2.op, o2.guard with
    | some a, .call c, none, some b, .assign (.tmp a'), none => match c.callee with
      | .builtin .recover => if a = a' ∧ c.args.toList.length = 0 ∧ a < N ∧ b < N then some (a, b) else none
      | _ => none
    | _, _, _, _, _, _ => none
  | _ => none
def compRF (P : Program) (own : List Nat) (g : Nat) : Option RF :=
  match P.funcs[g]? with
  | none => none
  | some fn => match fn.body with
    | none => none
    | some c => match c with
      | .seq (.region _ ops false) r => match recOps fn.ntmps ops.toList, compC P fn.ntmps own r with
        | some (a, b), some ic => if fn.params.size + fn.nfree ≤ fn.ntmps ∧ fn.results.toList.length = 0 then some ⟨fn.params.size + fn.nfree, a, b, ic⟩ else none
        | _, _ => none
      | _ => none

def preW (P : Program) (K : FR → List Ob → List Ob → Prop) (Q : Exit → FR → List Ob → List Ob → Prop) : List IC → FR → List Ob → List Ob → Prop
  | [], fr, ba, lo => K fr ba lo
  | x :: l, fr, ba, lo => W P x fr ba lo (thenQ (preW P K Q l) Q)

theorem pre_sound {N B nd : Nat} {T : List Deferred} {own : List Nat} (hm : P.follows .mixedOrders = true) {K : FR → List Ob → List Ob → Prop} {Q : Exit → FR → List Ob → List Ob → Prop} {Qc : Exit → Act → World → Prop} : ∀ (l : List IC) (c : Code), compCs P N own (headsC l.length c) = some (l.map IC.bare) → ∀ {fr : FR} {ba lo : List Ob} {μ : List MI} {w : World} {a : Act}, preW P K Q l fr ba lo → Rel N B T μ w a fr ba lo →
    (∀ fr' ba' lo' μ' w' a', K fr' ba' lo' → Rel N B T μ' w' a' fr' ba' lo' → Le μ w μ' w' → ba'.length = ba.length → (tailC l.length c).wpIn (FW none) nd P Qc a' w') →
    (∀ e fr' ba' lo' μ' w' a', e ≠ .normal → Q e fr' ba' lo' → Rel N B T μ' w' a' fr' ba' lo' → Le μ w μ' w' → ba'.length = ba.length → Qc e a' w') → c.wpIn (FW none) nd P Qc a w
  | [], c, _, _, _, _, _, _, _, h, hr, hk, _ => hk _ _ _ _ _ _ h hr (.refl _ _) rfl
  | x :: l, c, hc, fr, ba, lo, μ, w, a, h, hr, hk, hx => by
    cases c with
    | seq a' b =>
      simp only [List.length_cons, headsC, compCs] at hc
      split at hc
      · rename_i y l' h1 h2
        simp only [List.map_cons, Option.some.injEq, List.cons.injEq] at hc
        obtain ⟨rfl, rfl⟩ := hc
        refine wpIn_seq (wpIn_mono (W_sound hm nd x a' h1 h hr) fun e a' w' hp => ?_)
        obtain ⟨μ', fr', ba', lo', g1, g2, g3, g4⟩ := hp
        cases e with
        | normal => exact pre_sound hm l b h2 g1 g2 (fun fr2 ba2 lo2 μ2 w2 a2 k1 k2 k3 k4 => hk fr2 ba2 lo2 μ2 w2 a2 k1 k2 (g3.trans k3) (k4.trans g4)) fun e fr2 ba2 lo2 μ2 w2 a2 k0 k1 k2 k3 k4 => hx e fr2 ba2 lo2 μ2 w2 a2 k0 k1 k2 (g3.trans k3) (k4.trans g4)
        | exit i => exact hx _ _ _ _ _ _ _ (by simp) g1 g2 g3 g4
        | goto i => exact hx _ _ _ _ _ _ _ (by simp) g1 g2 g3 g4
        | ret => exact hx _ _ _ _ _ _ _ (by simp) g1 g2 g3 g4
        | panic i => exact hx _ _ _ _ _ _ _ (by simp) g1 g2 g3 g4
        | outgrown => exact hx _ _ _ _ _ _ _ (by simp) g1 g2 g3 g4
      · cases hc
    | _ => simp [headsC, compCs] at hc

/-- Behind recover: the frame that is left speaks of its results. -/
def recK (P : Program) (r : RF) (res : List IRes) (K : AV → List Ob → List Ob → Prop) (caps : List AV) (x : PV) (fr : FR) (ba lo : List Ob) : Prop :=
  W P r.body (putF (putF (frameOf 0 caps) (some r.a) (.p x)) (some r.b) (.p x)) ba lo fun e _ ba' lo' => match e with
    | .normal => resI fr ba' lo' res K
    | .ret => resI fr ba' lo' res K
    | _ => False
def postQ (P : Program) (r : RF) (res : List IRes) (K : AV → List Ob → List Ob → Prop) (caps : List AV) : Exit → FR → List Ob → List Ob → Prop
  | .normal, fr, ba, lo => recK P r res K caps .nili fr ba lo
  | .ret, fr, ba, lo => recK P r res K caps .nili fr ba lo
  | .panic ch, fr, ba, lo => ∃ t x u, ch = [{ v := .iface t u, recovered := false }] ∧ rawV x = some u ∧ recK P r res K caps (.iface t x) fr ba lo
  | _, _, _, _ => False
def earlyQ (res : List IRes) (K : AV → List Ob → List Ob → Prop) : Exit → FR → List Ob → List Ob → Prop
  | .ret, fr, ba, lo => resI fr ba lo res K
  | _, _, _, _ => False
def RF.bare (r : RF) : RF := ⟨r.params, r.a, r.b, r.body.bare⟩
def DF.bare (r : DF) : DF := ⟨r.params, r.res, r.pre.map IC.bare, r.t, r.g, r.cap, r.post.bare⟩
def dferK (P : Program) (d : DF) (r : RF) (K : AV → List Ob → List Ob → Prop) (fr : FR) (ba lo : List Ob) : Prop :=
  W P d.post (putF fr (some d.t) (.p .undef)) ba lo (postQ P r d.res K (d.cap.map fun x => evF x fr))

theorem rawV_VP {M : Nat → Prop} {w : World} {x : PV} {u : Value} (h : rawV x = some u) : VP M w u x := by
  unfold rawV at h
  split at h
  · cases h; exact .int _ _
  · cases h
    refine .agg _ _ rfl (fun j x c hx hc => ?_) fun j x hx => ?_
    · match j, hx, hc with
      | 0, hx, hc => simp at hx hc; subst hx; subst hc; exact .int _ _
      | 1, hx, hc => simp at hx hc; subst hx; subst hc; exact .int _ _
      | j + 2, hx, hc => simp at hx
    · match j, hx with
      | 0, hx => simp at hx; subst hx; rfl
      | 1, hx => simp at hx; subst hx; rfl
      | j + 2, hx => simp at hx
  · cases h

theorem recOps_out {N a b : Nat} {l : List Oper} (h : recOps N l = some (a, b)) : ∃ o1 o2 c, l = [o1, o2] ∧ o1.dst = some a ∧ o1.op = .call c ∧ c.callee = .builtin .recover ∧ o1.guard = none ∧ o2.dst = some b ∧ o2.op = .assign (.tmp a) ∧ o2.guard = none ∧ a < N ∧ b < N := by
  unfold recOps at h
  split at h
  · rename_i o1 o2
    split at h
    · rename_i a1 c b1 a2 e1 e2 e3 e4 e5 e6
      split at h
      · rename_i e7
        split at h
        · rename_i e8
          obtain ⟨rfl, _, e9, e10⟩ := e8
          cases h
          exact ⟨o1, o2, c, rfl, e1, e2, e7, e3, e4, e5, e6, e9, e10⟩
        · cases h
      · cases h
    · cases h
  · cases h

theorem rel_start {ntmps : Nat} {args : List AV} {xs : Array Value} {μ : List MI} {w : World} {ba lo : List Ob} (hi : Inv μ w ba lo) (hx : VAs ⟨blocks μ, ba.length, μ⟩ w xs args) (hpar : args.length ≤ ntmps) :
    Rel ntmps w.heap.size [] μ w { tmps := xs ++ Array.replicate (ntmps - xs.size) undef, defers := [] } (frameOf 0 args) ba lo := by
  have hsz : xs.size = args.length := hx.1
  refine ⟨hi, by simp; omega, Nat.le_refl _, .nil, fun t => ?_⟩
  rw [frameOf_get, if_pos (Nat.zero_le _), Nat.sub_zero]
  simp only [Array.getD_eq_getD_getElem?]
  rcases Nat.lt_or_ge t args.length with ht | ht
  · rw [Array.getElem?_append_left (by omega), Array.getElem?_eq_getElem (by omega), List.getElem?_eq_getElem ht]
    exact hx.2 t _ _ (Array.getElem?_eq_getElem (by omega)) (List.getElem?_eq_getElem ht)
  · rw [List.getElem?_eq_none (by omega)]
    exact .p _ _ (.undef _)

theorem opsS_value {F : Fence} {n i : Nat} {ops : Array Oper} {o : Oper} {Q : Exit → Act → List Frame → World → Prop} {rest : List Nat} {a : Act} {cs : List Frame} {w : World} {v : Value} (ho : ops[i]? = some o) (hg : o.guard = none) (hr : (execOp a.eval o).run P w = .ok (.value v) w) (hab : ∀ f, o.about P w a.eval = some f → F.fn f) (k : wpOpsSIn F n P ops Q rest (a.put o.dst v) cs w) : wpOpsSIn F n P ops Q (i :: rest) a cs w := by
  simp only [wpOpsSIn, ho]
  refine ⟨hab, ?_⟩
  rw [if_pos (by simp [Region.wanted, hg])]
  simp only [hr]
  exact k
theorem opsS_rec {F : Fence} {n i : Nat} {ops : Array Oper} {o : Oper} {Q : Exit → Act → List Frame → World → Prop} {rest : List Nat} {a : Act} {cs : List Frame} {w : World} (ho : ops[i]? = some o) (hg : o.guard = none) (hr : (execOp a.eval o).run P w = .ok .recover w) (hab : ∀ f, o.about P w a.eval = some f → F.fn f)
    (k : match recoverD cs with | some (v, cs') => wpOpsSIn F n P ops Q rest (a.put o.dst v) cs' w | none => wpOpsSIn F n P ops Q rest (a.put o.dst .nilIface) cs w) : wpOpsSIn F n P ops Q (i :: rest) a cs w := by
  simp only [wpOpsSIn, ho]
  refine ⟨hab, ?_⟩
  rw [if_pos (by simp [Region.wanted, hg])]
  simp only [hr]
  exact k

theorem rec_sound {own : List Nat} {g : Nat} {r : RF} (hm : P.follows .mixedOrders = true) (hg : compRF P own g = some r.bare) {caps : List AV} (hcl : caps.length = r.params) {x : PV} {v : Value} {u u' : FrameMode}
    (hu : (u = .returning ∧ v = .nilIface ∧ u' = .returning) ∨ (u = .panicking [{ v, recovered := false }] ∧ u' = .panicking [{ v, recovered := true }])) (hv : ∀ M w, VP M w v x) {fr : FR} {ba lo : List Ob} {res : List IRes} {K : AV → List Ob → List Ob → Prop} {μ : List MI} {w : World} {xs : Array Value}
    (hi : Inv μ w ba lo) (hx : VAs ⟨blocks μ, ba.length, μ⟩ w xs caps) (h : recK P r res K caps x fr ba lo) :
    CallsDIn (FW none) 0 P g xs u w fun e u2 w' => ∃ v2, e = .returned v2 ∧ u2 = u' ∧ ∃ μ' ba' lo', Inv μ' w' ba' lo' ∧ Le μ w μ' w' ∧ ba'.length = ba.length ∧ resI fr ba' lo' res K := by
  unfold compRF at hg
  split at hg
  · cases hg
  rename_i fn hfn
  split at hg
  · cases hg
  rename_i c hbody
  split at hg
  · rename_i id ops c2
    split at hg
    · rename_i a b ic hops hic
      split at hg
      · rename_i hc
        obtain ⟨hc1, hc2⟩ := hc
        have hg := Option.some.inj hg
        have e1 : fn.params.size + fn.nfree = r.params := congrArg RF.params hg
        have e2 : a = r.a := congrArg RF.a hg
        have e3 : b = r.b := congrArg RF.b hg
        have e4 : ic = r.body.bare := congrArg RF.body hg
        subst e2 e3 e4
        obtain ⟨o1, o2, cl, ho, p1, p2, p3, p4, p5, p6, p7, p8, p9⟩ := recOps_out hops
        have ho : ops = #[o1, o2] := by rw [← Array.toArray_toList (xs := ops), ho]
        subst ho
        refine callsDIn_marks hfn hbody trivial fun c₀ cs hc₀ => ?_
        refine wpSIn_seq (wpSIn_region ?_)
        have hrel := rel_start (ntmps := fn.ntmps) hi hx (by omega)
        have run1 : ∀ (a : Act) (w : World), (execOp a.eval o1).run P w = .ok .recover w := fun a w => by
          simp [execOp, p2, p3, resolve, invoke, builtin]
        have run2 : ∀ (a : Act) (w : World), (execOp a.eval o2).run P w = .ok (.value (a.eval (.tmp r.a))) w := fun a w => by
          simp [execOp, p6]
        have go : ∀ (cs' : List Frame), cs' = { c₀ with mode := u' } :: cs → wpOpsSIn (FW none) 0 P #[o1, o2] (Exit.thenS (c2.wpSIn (FW none) 0 P (bodyPostR P fn c₀ cs fun v u2 w' => u2 = u' ∧ ∃ μ' ba' lo', Inv μ' w' ba' lo' ∧ Le μ w μ' w' ∧ ba'.length = ba.length ∧ resI fr ba' lo' res K)) (bodyPostR P fn c₀ cs fun v u2 w' => u2 = u' ∧ ∃ μ' ba' lo', Inv μ' w' ba' lo' ∧ Le μ w μ' w' ∧ ba'.length = ba.length ∧ resI fr ba' lo' res K)) [1] (({ tmps := xs ++ Array.replicate (fn.ntmps - xs.size) undef, defers := [] } : Act).put (some r.a) v) cs' w := fun cs' hcs => by
          subst hcs
          refine opsS_value (o := o2) rfl p7 (run2 _ _) (fun _ _ => trivial) ?_
          rw [p5]
          have r1 : Rel fn.ntmps w.heap.size [] μ w (({ tmps := xs ++ Array.replicate (fn.ntmps - xs.size) undef, defers := [] } : Act).put (some r.a) v) (putF (frameOf 0 caps) (some r.a) (.p x)) ba lo := hrel.put (fun t ht => by cases ht; exact p8) hi (.refl _ _) rfl (.p _ _ (hv _ _))
          have ev := r1.eval (x := .tmp r.a) (r := .t r.a) rfl
          have ee : evF (.t r.a) (putF (frameOf 0 caps) (some r.a) (.p x)) = .p x := by simp only [evF, putF]; rw [get_set]; simp
          rw [ee] at ev
          have r2 := r1.put (d := some r.b) (fun t ht => by cases ht; exact p9) hi (.refl _ _) rfl ev
          refine wpSIn_of_wpIn rfl (wpIn_mono (W_sound hm 0 r.body c2 hic h r2) fun e a' w' hp => ?_)
          obtain ⟨μ', fr', ba', lo', g1, g2, g3, g4⟩ := hp
          have fin : resI fr ba' lo' res K → bodyPostR P fn c₀ cs (fun v u2 w' => u2 = u' ∧ ∃ μ' ba' lo', Inv μ' w' ba' lo' ∧ Le μ w μ' w' ∧ ba'.length = ba.length ∧ resI fr ba' lo' res K) .normal a' ({ c₀ with mode := u' } :: cs) w' := fun g1 => by
            obtain ⟨Ds, d1, d2, d3⟩ := g2.defers
            obtain ⟨q1, q2⟩ := Rel.shut (a := a') Ds d2 d3 ⟨g2.inv, g2.size, g2.base, .nil, g2.vals⟩ g3
            refine ⟨Ds, by rw [d1, List.append_nil], d2, fun D hD => (d3 D hD).2.2, u', rfl, .tuple #[], ?_, rfl, μ', ba', lo', q1.inv, q2, g4, g1⟩
            have : fn.results = #[] := by rw [← Array.toArray_toList (xs := fn.results), List.length_eq_zero_iff.1 hc2]
            simp [results, this]
          cases e with
          | normal => exact fin g1
          | ret => exact fin g1
          | exit id => exact g1.elim
          | goto l => exact g1.elim
          | panic ch => exact g1.elim
          | outgrown => exact g1.elim
        show wpOpsSIn _ _ _ _ _ [0, 1] _ _ _
        refine opsS_rec (o := o1) rfl p4 (run1 _ _) (fun _ _ => trivial) ?_
        rw [p1]
        rcases hu with ⟨h1, h2, h3⟩ | ⟨h1, h2⟩
        · have hrec : recoverD (c₀ :: cs) = none := by simp [recoverD, hc₀, h1]
          rw [hrec]
          subst h2
          exact go _ (by rw [h3, ← h1, ← hc₀])
        · have hrec : recoverD (c₀ :: cs) = some (v, { c₀ with mode := u' } :: cs) := by simp [recoverD, hc₀, h1, h2]
          rw [hrec]
          exact go _ rfl
      · cases hg
    · cases hg
  · cases hg

theorem opsI_value {F : Fence} {n i : Nat} {ops : Array Oper} {o : Oper} {Q : Exit → Act → World → Prop} {rest : List Nat} {a : Act} {w : World} {v : Value} (ho : ops[i]? = some o) (hg : o.guard = none) (hro : F.round = none) (hr : (execOp a.eval o).run P w = .ok (.value v) w) (hab : ∀ f, o.about P w a.eval = some f → F.fn f) (k : wpOpsIn F n P ops Q rest (a.put o.dst v) w) : wpOpsIn F n P ops Q (i :: rest) a w := by
  simp only [wpOpsIn, ho]
  rw [if_pos (by simp [Region.wanted, hg])]
  refine ⟨hab, ?_⟩
  rw [hro, Oper.semAt_none, hr]
  exact k
theorem opsI_defer {F : Fence} {n i : Nat} {ops : Array Oper} {o : Oper} {Q : Exit → Act → World → Prop} {rest : List Nat} {a : Act} {w : World} {d : Deferred} (ho : ops[i]? = some o) (hg : o.guard = none) (hro : F.round = none) (hr : (execOp a.eval o).run P w = .ok (.defer d) w) (hab : ∀ f, o.about P w a.eval = some f → F.fn f) (k : wpOpsIn F n P ops Q rest ({ a with defers := d :: a.defers }.put o.dst undef) w) : wpOpsIn F n P ops Q (i :: rest) a w := by
  simp only [wpOpsIn, ho]
  rw [if_pos (by simp [Region.wanted, hg])]
  refine ⟨hab, ?_⟩
  rw [hro, Oper.semAt_none, hr]
  exact k

theorem dferOps_out {N t g : Nat} {cs : List Rv} {l : List Oper} (h : dferOps N l = some (t, g, cs)) : ∃ o1 o2 cap c, l = [o1, o2] ∧ o1.dst = some t ∧ o1.op = .makeFunc (.func g) #[] cap ∧ o1.guard = none ∧ o2.op = .defer c ∧ o2.guard = none ∧ c.callee = .value (.tmp t) ∧ rvs cap.toList = some cs ∧ o2.dst = none ∧ c.args = #[] ∧ t < N := by
  unfold dferOps at h
  split at h
  · rename_i o1 o2
    split at h
    · rename_i t1 g1 fs cap c e1 e2 e3 e4 e5
      split at h
      · rename_i t2 cs1 e6 e7 e8
        split at h
        · rename_i e9
          obtain ⟨rfl, f1, f2, f3⟩ := e9
          cases h
          have h1 : fs = #[] := by rw [← Array.toArray_toList (xs := fs), List.length_eq_zero_iff.1 f1]
          have h2 : c.args = #[] := by rw [← Array.toArray_toList (xs := c.args), List.length_eq_zero_iff.1 f2]
          subst h1
          exact ⟨o1, o2, cap, c, rfl, e1, e2, e3, e4, e5, e6, e7, e8, h2, f3⟩
        · cases h
      · cases h
    · cases h
  · cases h

set_option maxHeartbeats 1000000 in
theorem CallVC.defers {own own2 : List Nat} {f : Nat} {d : DF} {r : RF} {args : List AV} {ba lo : List Ob} {K : AV → List Ob → List Ob → Prop} (hc : compDF P own f d.pre.length = some d.bare) (hg : compRF P own2 d.g = some r.bare) (hn : Nat.beq d.cap.length r.params = true)
    (h : bif Nat.beq args.length d.params then preW P (dferK P d r K) (earlyQ d.res K) d.pre (frameOf 0 args) ba lo else False) : CallVC P f args ba lo K := by
  refine ⟨fun μ w xs hi hx => ?_⟩
  unfold compDF at hc
  split at hc
  · cases hc
  rename_i fn hfn
  split at hc
  · cases hc
  rename_i c hbody
  split at hc
  · rename_i id ops c2 htail
    split at hc
    · rename_i l t g cs post rs hl hops hpost hrs
      split at hc
      · rename_i hcond
        obtain ⟨hpar, hm, hen⟩ := hcond
        have hc := Option.some.inj hc
        have e1 : fn.params.size + fn.nfree = d.params := congrArg DF.params hc
        have e2 : rs = d.res := congrArg DF.res hc
        have e3 : l = d.pre.map IC.bare := congrArg DF.pre hc
        have e4 : t = d.t := congrArg DF.t hc
        have e5 : g = d.g := congrArg DF.g hc
        have e6 : cs = d.cap := congrArg DF.cap hc
        have e7 : post = d.post.bare := congrArg DF.post hc
        subst e2 e3 e4 e5 e6 e7
        cases hb : Nat.beq args.length d.params with
        | false => rw [hb] at h; exact h.elim
        | true =>
          rw [hb] at h
          have hlen : args.length = d.params := Nat.eq_of_beq_eq_true hb
          have hcaps : d.cap.length = r.params := Nat.eq_of_beq_eq_true hn
          have h : preW P (dferK P d r K) (earlyQ d.res K) d.pre (frameOf 0 args) ba lo := h
          have hrel := rel_start (ntmps := fn.ntmps) hi hx (by omega)
          refine callsIn_wide.1 (callsIn_of_wp_marks (F := FW none) (n := 0) hfn hbody trivial ?_)
          refine pre_sound hm d.pre c hl h hrel (fun fr1 ba1 lo1 μ1 w1 a1 k1 k2 k3 k4 => ?_) (fun e fr1 ba1 lo1 μ1 w1 a1 hne k1 k2 k3 k4 => ?_)
          · rw [htail]
            obtain ⟨o1, o2, cap, cl, ho, p1, p2, p3, p4, p5, p6, p7, p8, p9, p10⟩ := dferOps_out hops
            have ho : ops = #[o1, o2] := by rw [← Array.toArray_toList (xs := ops), ho]
            subst ho
            refine wpIn_seq (wpIn_region ?_)
            show wpOpsIn _ _ _ _ _ [0, 1] _ _
            refine opsI_value (o := o1) (v := .func (.func d.g) #[] (cap.map a1.eval)) rfl p3 rfl (by simp [execOp, p2, Instr.makeFunc]) (fun _ _ => trivial) ?_
            rw [p1]
            have r1 : Rel fn.ntmps w.heap.size [] μ1 w1 (a1.put (some d.t) (.func (.func d.g) #[] (cap.map a1.eval))) (putF fr1 (some d.t) (.p .undef)) ba1 lo1 := k2.put (fun t ht => by cases ht; exact p10) k2.inv (.refl _ _) rfl (.p _ _ (.undef _))
            have hev : (a1.put (some d.t) (.func (.func d.g) #[] (cap.map a1.eval))).eval (.tmp d.t) = .func (.func d.g) #[] (cap.map a1.eval) := by
              have : d.t < a1.tmps.size := by rw [k2.size]; exact p10
              simp [Act.eval, Act.put, this]
            refine opsI_defer (o := o2) (d := { target := .fn (.func d.g) (cap.map a1.eval), args := #[] }) rfl p5 rfl (by simp [execOp, p4, resolve, p6, hev, Deferred.ofValue, p9]) (fun _ _ => trivial) ?_
            rw [p8]
            have hxs : VAs ⟨blocks μ1, ba1.length, μ1⟩ w1 (cap.map a1.eval) (d.cap.map fun x => evF x fr1) := by
              obtain ⟨a1', a2⟩ := rvs_sound fr1 (a := a1) (w := w1) (Γ := ⟨blocks μ1, ba1.length, μ1⟩) p7 (fun x r hm hxr => k2.eval hxr)
              exact ⟨by simpa using a1', fun j x c hj hcj => a2 j x c (by simpa using hj) hcj⟩
            have r2 : Rel fn.ntmps w1.heap.size ({ target := .fn (.func d.g) (cap.map a1.eval), args := #[] } :: a1.defers) μ1 w1 ({ a1.put (some d.t) (.func (.func d.g) #[] (cap.map a1.eval)) with defers := { target := .fn (.func d.g) (cap.map a1.eval), args := #[] } :: a1.defers } : Act) (putF fr1 (some d.t) (.p .undef)) ba1 lo1 := ⟨r1.inv, r1.size, Nat.le_refl _, .nil, r1.vals⟩
            show c2.wpIn _ _ _ _ ({ a1.put (some d.t) (.func (.func d.g) #[] (cap.map a1.eval)) with defers := { target := .fn (.func d.g) (cap.map a1.eval), args := #[] } :: a1.defers } : Act) w1
            refine wpIn_mono (W_sound hm 0 d.post c2 hpost k1 r2) fun e a2 w2 hp => ?_
            obtain ⟨μ2, fr2, ba2, lo2, g1, g2, g3, g4⟩ := hp
            have leave : ∀ (u u' : FrameMode) (v : Value) (x : PV), u ≠ .run → ((u = .returning ∧ v = .nilIface ∧ u' = .returning) ∨ (u = .panicking [{ v, recovered := false }] ∧ u' = .panicking [{ v, recovered := true }])) → (∀ M w, VP M w v x) → recK P r d.res K (d.cap.map fun x => evF x fr1) x fr2 ba2 lo2 →
                LeavesInM (FW none) 0 P fn a2.tmps (fun e w' => ∃ v' r μ'' ba'' lo'', e = .returned v' ∧ VA ⟨blocks μ'', ba.length, μ''⟩ w' v' r ∧ Inv μ'' w' ba'' lo'' ∧ Le μ w μ'' w' ∧ ba''.length = ba.length ∧ K r ba'' lo'') a2.defers u w2 := fun u u' v x hrun hu hv hrec => by
              obtain ⟨Ds, d1, d2, d3⟩ := g2.defers
              rw [d1]
              refine leaves_marksT hrun Ds d2 (fun D hD => (d3 D hD).2.2) ?_
              obtain ⟨q1, q2⟩ := Rel.shut (a := a2) Ds d2 d3 ⟨g2.inv, g2.size, g2.base, .nil, g2.vals⟩ g3
              have hx2 : VAs ⟨blocks μ2, ba2.length, μ2⟩ (shutAll Ds w2) (cap.map a1.eval) (d.cap.map fun x => evF x fr1) := ⟨hxs.1, fun j x c hj hcj => by rw [g4]; exact (hxs.2 j x c hj hcj).mono q2.stays q2.above⟩
              refine ⟨hrun, .inr ⟨fun e => (by cases e), .func d.g, cap.map a1.eval, d.g, cap.map a1.eval, rfl, by simp [invoke, enters_run hen], fun _ _ => trivial, ?_⟩⟩
              refine (rec_sound (res := d.res) (K := K) (fr := fr2) hm hg (by simpa using hcaps) hu hv q1.inv hx2 hrec).mono fun e u2 w3 hw => ?_
              obtain ⟨v2, rfl, rfl, μ3, ba3, lo3, i1, i2, i3, i4⟩ := hw
              have hset : settle u2 = .returning := by
                rcases hu with ⟨_, _, rfl⟩ | ⟨_, rfl⟩
                · rfl
                · rfl
              show LeavesInM _ _ _ _ _ _ _ (settle u2) _
              rw [hset]
              have hst : Stays (blocks μ1) w1 (blocks μ3) w3 := q2.stays.trans i2.stays
              obtain ⟨Ds1, c1, c2', c3⟩ := k2.defers.mono hst
              rw [c1, List.append_nil]
              refine leaves_marks Ds1 c2' (fun D hD => (c3 D hD).2.2) ?_
              have r3 : Rel fn.ntmps w.heap.size [] μ3 w3 { a2 with defers := [] } fr2 ba3 lo3 := ⟨i1, q1.size, Nat.le_trans k2.base hst.1, .nil, fun t => by rw [i3]; exact (q1.vals t).mono i2.stays i2.above⟩
              obtain ⟨z1, z2⟩ := Rel.shut (a := a2) Ds1 c2' c3 r3 (k3.trans (q2.trans i2))
              obtain ⟨v4, r4, y1, y2, y3⟩ := resI_out hrs i4 z1
              have hbl : ba3.length = ba.length := i3.trans (g4.trans k4)
              exact ⟨v4, y1, v4, r4, μ3, ba3, lo3, rfl, by rw [← hbl]; exact y3, z1.inv, z2, hbl, y2⟩
            cases e with
            | normal => exact leave .returning .returning .nilIface .nili (by simp) (.inl ⟨rfl, rfl, rfl⟩) (fun _ _ => .nili) g1
            | ret => exact leave .returning .returning .nilIface .nili (by simp) (.inl ⟨rfl, rfl, rfl⟩) (fun _ _ => .nili) g1
            | panic ch =>
              obtain ⟨t, x, u, rfl, hu, hk⟩ := g1
              exact leave _ _ (.iface t u) (.iface t x) (by simp) (.inr ⟨rfl, rfl⟩) (fun _ _ => .iface _ _ _ (rawV_VP hu)) hk
            | exit id => exact g1.elim
            | goto l => exact g1.elim
            | outgrown => exact g1.elim
          · cases e with
            | ret =>
              obtain ⟨Ds, d1, d2, d3⟩ := k2.defers
              show LeavesInM _ _ _ _ _ _ _ _ _
              rw [d1, List.append_nil]
              refine leaves_marks Ds d2 (fun D hD => (d3 D hD).2.2) ?_
              obtain ⟨q1, q2⟩ := Rel.shut (a := a1) Ds d2 d3 ⟨k2.inv, k2.size, k2.base, .nil, k2.vals⟩ k3
              obtain ⟨v, r, z1, z2, z3⟩ := resI_out hrs k1 q1
              exact ⟨v, z1, v, r, μ1, ba1, lo1, rfl, by rw [← k4]; exact z3, q1.inv, q2, k4, z2⟩
            | normal => exact absurd rfl hne
            | panic ch => exact k1.elim
            | exit id => exact k1.elim
            | goto l => exact k1.elim
            | outgrown => exact k1.elim
      · cases hc
    · cases hc
  · cases hc

/-- The method of own objects that may panic, whatever elder ones there are. -/
theorem CallPV.methF {f : Nat} {args args0 : List AV} {ba lo os : List Ob} {K : AV → List Ob → List Ob → Prop} {X : XV} {o : Out} (lo1 lo2 : List Ob) (h : MethP P f args0 os o) (hlo : lo = lo1 ++ os ++ lo2)
    (ha : AV.rens (shB lo1.length) args0 = args) (hc : avsCl os.length args0 = true) (n1 : os.all Ob.noRef = true)
    (k : match o with | .ret r os' => (os'.length = os.length ∧ os'.all Ob.noRef = true) ∧ K (.p r) ba (lo1 ++ os' ++ lo2) | .pan ch os' => (os'.length = os.length ∧ os'.all Ob.noRef = true) ∧ X ch ba (lo1 ++ os' ++ lo2)) : CallPV P f args ba lo K X := by
  subst hlo; subst ha
  have m1 : ∀ o, o ∈ os → o.noRef = true := fun o ho => List.all_eq_true.1 n1 o ho
  have clO : ∀ l : List Ob, l.all Ob.noRef = true → l.map (Ob.close ba.length) = l := fun l hl => by
    conv => rhs; rw [← List.map_id l]
    exact List.map_congr_left fun o ho => noRef_close _ (List.all_eq_true.1 hl o ho)
  refine CallPV.to ?_
  generalize hX : ba ++ lo1.map (Ob.close ba.length) = Y
  generalize hZ : lo2.map (Ob.close ba.length) = Z
  have hXl : Y.length = ba.length + lo1.length := by rw [← hX]; simp
  have efl : ∀ l : List Ob, l.all Ob.noRef = true → flat ba (lo1 ++ l ++ lo2) = Y ++ l ++ Z := fun l hl => by
    rw [flat, List.map_append, List.map_append, clO l hl, hZ, ← hX]; simp [List.append_assoc]
  rw [efl os n1]
  intro μ w xs hi hx
  have bnd1 : ∀ i, i < (Y ++ os ++ Z).length → rotI Y.length os.length i < (Y ++ os ++ Z).length := fun i hi => by
    simp only [List.length_append] at hi ⊢
    unfold rotI
    repeat' split
    all_goals omega
  have bnd2 : ∀ i, i < (Y ++ os ++ Z).length → rotG Y.length os.length i < (Y ++ os ++ Z).length := fun i hi => by
    simp only [List.length_append] at hi ⊢
    unfold rotG
    repeat' split
    all_goals omega
  obtain ⟨ν, i1, i2, i3⟩ := perm_in (rot1 Y.length os.length) (rot2 Y.length os.length) bnd1 bnd2 hi rfl
  rw [pmO_rot m1] at i1
  have hlen : (os ++ (Y ++ Z).map (Ob.ren (rb (rotG Y.length os.length)))).length = (Y ++ os ++ Z).length := by simp; omega
  have lows : ∀ os' : List Ob, os'.all Ob.noRef = true → ∀ o, o ∈ lo1 ++ os' ++ lo2 → o ∈ lo1 ++ os ++ lo2 ∨ o.Low ba.length := fun os' n2 o ho => by
    simp only [List.mem_append] at ho ⊢
    rcases ho with (ho | ho) | ho
    · exact .inl (.inl (.inl ho))
    · exact .inr (noRef_low _ (List.all_eq_true.1 n2 o ho))
    · exact .inl (.inr ho)
  refine (h _ ν w xs i1 ⟨?_, fun j x a hj haj => ?_⟩).mono fun e w' hw => ?_
  · have := hx.1
    rw [closes_length, rens_length] at this
    exact this
  · rw [hlen]
    have hcl : (AV.closes ba.length (AV.rens (shB lo1.length) args0))[j]? = some ((a.ren (shB lo1.length)).close ba.length) := by rw [closes_get, rens_get, haj]; rfl
    have := i2 x _ (hx.2 j x _ hj hcl)
    have hal := avsCl_at ba.length lo1.length os.length hc
    have hja : (AV.rens (rb (rotG (ba.length + lo1.length) os.length)) (AV.closes ba.length (AV.rens (shB lo1.length) args0)))[j]? = some (((a.ren (shB lo1.length)).close ba.length).ren (rb (rotG (ba.length + lo1.length) os.length))) := by rw [rens_get, hcl]; rfl
    rw [hal, haj] at hja
    have hja := Option.some.inj hja
    rw [hXl, ← hja] at this
    exact this
  · rcases hw with ⟨v, r', H', ν', he, ⟨r, os', rfl, rfl, rfl⟩, g3, g4, g5⟩ | ⟨ch, H', ν', he, ⟨os', rfl, rfl⟩, g3, g5⟩
    · obtain ⟨⟨hl, n2⟩, k⟩ := k
      have hl1 : (os' ++ (Y ++ Z).map (Ob.ren (rb (rotG Y.length os.length)))).length = (Y ++ os ++ Z).length := by simp; omega
      obtain ⟨μ', k1, k2, k3⟩ := i3 ν' w' _ g3 hl1 g5
      have hll : (Y ++ os ++ Z).length = (Y ++ os' ++ Z).length := by simp [hl]
      rw [hll, ← hl, pmO_back fun o ho => List.all_eq_true.1 n2 o ho] at k1
      refine .inl ⟨v, .p r, Y ++ os' ++ Z, μ', he, ⟨.p r, ba, lo1 ++ os' ++ lo2, by rw [AV.close], .p _, by rw [← efl os' n2, flat], rfl, fun o ho => .inl ho, lows os' n2, k⟩, k1, ?_, k2⟩
      have := k3 v (.p r) (by rw [← hl1]; exact g4)
      rw [AV.ren, hll] at this
      exact this
    · obtain ⟨⟨hl, n2⟩, k⟩ := k
      have hl1 : (os' ++ (Y ++ Z).map (Ob.ren (rb (rotG Y.length os.length)))).length = (Y ++ os ++ Z).length := by simp; omega
      obtain ⟨μ', k1, k2, k3⟩ := i3 ν' w' _ g3 hl1 g5
      have hll : (Y ++ os ++ Z).length = (Y ++ os' ++ Z).length := by simp [hl]
      rw [hll, ← hl, pmO_back fun o ho => List.all_eq_true.1 n2 o ho] at k1
      exact .inr ⟨ch, Y ++ os' ++ Z, μ', he, ⟨ba, lo1 ++ os' ++ lo2, by rw [← efl os' n2, flat], rfl, fun o ho => .inl ho, lows os' n2, k⟩, k1, k2⟩

end
end Go.Proofs.YtgdimfogijfmiaaDoor.AD

namespace Go.Proofs.YtgdimfogijfmiaaDoor.AD
set_option linter.unusedVariables false
section
variable {P : Program}

/-- An empty list is nil, or it is not. -/
def Empt (ba lo : List Ob) : AV → Prop
  | .p .nils => True
  | .p .zer => True
  | .p .emp => True
  | .p (.list _ []) => True
  | .view r g sz 0 => aliveV r g ba lo
  | _ => False

theorem Empt.out {ba lo : List Ob} {a : AV} (h : Empt ba lo a) {μ : List MI} {w : World} (hi : Inv μ w ba lo) {v : Value} (hv : VA ⟨blocks μ, ba.length, μ⟩ w v a) : VA ⟨blocks μ, ba.length, μ⟩ w v (.p .nils) ∨ VA ⟨blocks μ, ba.length, μ⟩ w v (.p .zer) := by
  unfold Empt at h
  split at h
  · exact .inl hv
  · exact .inr hv
  · have := hv.pv
    cases this with
    | emp A =>
      cases A with
      | none => exact .inl (.p _ _ .nils)
      | some A => exact .inr (.p _ _ (.zer A 0))
  · obtain ⟨A, c, h1, h2, h3, h4, h5⟩ := hv.pv.list_row
    cases A with
    | none =>
      have := h4 rfl
      subst this
      subst h1
      exact .inl (.p _ _ .nils)
    | some A => subst h1; exact .inr (.p _ _ (.zer A c))
  · obtain ⟨b, n', h5⟩ := aliveV_at h hi
    rcases view_inv hv h5 with ⟨rfl, h6, h7⟩ | ⟨b', cap, rfl, h6, h7, h8⟩
    · subst h6; exact .inl (.p _ _ .nils)
    · subst h6; exact .inr (.p _ _ (.zer _ cap))
  · exact h.elim

/-- An answer that is told less exactly. -/
theorem CallVC.le {f : Nat} {args : List AV} {ba lo : List Ob} {K : AV → List Ob → List Ob → Prop} (h : CallVC P f args ba lo fun r b l => K r b l ∨ ∃ e e', r = .p e ∧ e.le e' ∧ K (.p e') b l) : CallVC P f args ba lo K := by
  refine ⟨fun μ w xs hi hx => (h.out μ w xs hi hx).mono fun e w' hw => ?_⟩
  obtain ⟨v, r, μ', ba', lo', rfl, g2, g3, g4, g5, g6⟩ := hw
  rcases g6 with g6 | ⟨e, e', rfl, hl, g6⟩
  · exact ⟨v, r, μ', ba', lo', rfl, g2, g3, g4, g5, g6⟩
  · exact ⟨v, .p e', μ', ba', lo', rfl, .p _ _ (hl _ _ _ g2.pv), g3, g4, g5, g6⟩

theorem CallVC.byNil {f : Nat} {a : AV} {pre post : List AV} {ba lo : List Ob} {K : AV → List Ob → List Ob → Prop} (he : Empt ba lo a) (h1 : CallVC P f (pre ++ .p .nils :: post) ba lo K) (h2 : CallVC P f (pre ++ .p .zer :: post) ba lo K) : CallVC P f (pre ++ a :: post) ba lo K := by
  refine ⟨fun μ w xs hi hx => ?_⟩
  have hlt : pre.length < xs.size := by rw [hx.1]; simp
  have hv := hx.2 pre.length xs[pre.length] a (Array.getElem?_eq_getElem hlt) (by simp)
  have put : ∀ a', VA ⟨blocks μ, ba.length, μ⟩ w xs[pre.length] a' → VAs ⟨blocks μ, ba.length, μ⟩ w xs (pre ++ a' :: post) := fun a' ha' => by
    refine ⟨by rw [hx.1]; simp, fun j x c hj hc => ?_⟩
    by_cases e : j = pre.length
    · subst e
      rw [List.getElem?_append_right (Nat.le_refl _)] at hc
      simp at hc
      subst hc
      rw [Array.getElem?_eq_getElem hlt] at hj
      cases hj
      exact ha'
    · refine hx.2 j x c hj ?_
      rcases Nat.lt_or_ge j pre.length with hl | hl
      · rw [List.getElem?_append_left hl] at hc ⊢; exact hc
      · rw [List.getElem?_append_right hl] at hc ⊢
        obtain ⟨k, hk⟩ : ∃ k, j - pre.length = k + 1 := ⟨j - pre.length - 1, by omega⟩
        rw [hk] at hc ⊢
        exact hc
  rcases he.out hi hv with h | h
  · exact h1.out μ w xs hi (put _ h)
  · exact h2.out μ w xs hi (put _ h)
end
end Go.Proofs.YtgdimfogijfmiaaDoor.AD
