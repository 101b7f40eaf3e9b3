/- A plainer machine, sixteen: operations one behind the other. -/
import Derived.Test.YtkjidklifmcpnaaA15
namespace Go.Proofs.Ytkjidklifmcpnaa.AD
set_option linter.unusedVariables false
set_option linter.unusedSimpArgs false

def putF (fr : FR) (d : Option Nat) (v : AV) : FR :=
  match d with
  | some t => setF fr t v
  | none => fr

/-- Marks of ranges over functions among the deferred calls. -/
def Marks (B : Nat) (μ : List MI) (w : World) (ds : List Deferred) : Prop :=
  ∃ Ds : List Nat, ds = Ds.map (fun D => { target := .collected D, args := #[] }) ∧ Ds.Nodup ∧ ∀ D, D ∈ Ds → B ≤ D ∧ ¬ blocks μ D ∧ w.heap[D]? = some (.deferred (some []))
theorem Marks.nil {B : Nat} {μ : List MI} {w : World} : Marks B μ w [] := ⟨[], rfl, List.nodup_nil, fun D h => by cases h⟩
theorem Marks.mono {B : Nat} {μ μ' : List MI} {w w' : World} {ds : List Deferred} (h : Marks B μ w ds) (hs : Stays (blocks μ) w (blocks μ') w') : Marks B μ' w' ds := by
  obtain ⟨Ds, h1, h2, h3⟩ := h
  refine ⟨Ds, h1, h2, fun D hD => ?_⟩
  obtain ⟨g1, g2, g3⟩ := h3 D hD
  obtain ⟨k1, k2⟩ := hs.2 D (Array.getElem?_eq_some_iff.1 g3).1 g2
  exact ⟨g1, k1, k2.trans g3⟩

/-- Whatever is called, in a round of the loop ro or in none. -/
abbrev FW (ro : Option Nat) : Fence := { Fence.wide with round := ro }
theorem calls_FW {P : Program} {f : FuncId} {args : Array Value} {w : World} {R : Ending → World → Prop} (ro : Option Nat) (n : Nat) (h : Calls P f args w R) : CallsIn (FW ro) n P f args w R := (callsIn_wide.2 h : CallsIn Fence.wide n P f args w R)

structure Rel (N B : Nat) (μ : List MI) (w : World) (a : Act) (fr : FR) (ba lo : List Ob) : Prop where
  inv : Inv μ w ba lo
  size : a.tmps.size = N
  base : B ≤ w.heap.size
  defers : Marks B μ w a.defers
  vals : ∀ t, VA ⟨blocks μ, ba.length, μ⟩ w (a.tmps.getD t undef) (getF fr t)

section
variable {P : Program} {N B : Nat} {ro : Option Nat} {nd : Nat} {μ : List MI} {w : World} {a : Act} {fr : FR} {ba lo : List Ob}

theorem Rel.eval (h : Rel N B μ w a fr ba lo) {x : Operand} {r : Rv} (hr : rv x = some r) : VA ⟨blocks μ, ba.length, μ⟩ w (a.eval x) (evF r fr) := by
  cases r with
  | v e => exact rv_const hr
  | t n =>
    cases x with
    | tmp t => cases hr; exact h.vals _
    | const v => simp only [rv] at hr; obtain ⟨e, _, h2⟩ := map_some hr; cases h2
    | func f => cases hr
    | global g => cases hr

theorem Rel.opnds (h : Rel N B μ w a fr ba lo) (o : Oper) : Opnds o a μ w ba fr := fun x r _ hr => h.eval hr

theorem Rel.put (h : Rel N B μ w a fr ba lo) {μ' : List MI} {w' : World} {ba' lo' : List Ob} {d : Option Nat} {c : Value} {v : AV} (hd : ∀ t, d = some t → t < N) (hi : Inv μ' w' ba' lo') (hle : Le μ w μ' w') (hb : ba'.length = ba.length) (hv : VA ⟨blocks μ', ba.length, μ'⟩ w' c v) :
    Rel N B μ' w' (a.put d c) (putF fr d v) ba' lo' := by
  have old : ∀ t, VA ⟨blocks μ', ba'.length, μ'⟩ w' (a.tmps.getD t undef) (getF fr t) := fun t => by rw [hb]; exact (h.vals t).mono hle.stays hle.above
  cases d with
  | none => exact ⟨hi, h.size, Nat.le_trans h.base hle.stays.1, h.defers.mono hle.stays, old⟩
  | some d =>
    refine ⟨hi, by simp [Act.put, h.size], Nat.le_trans h.base hle.stays.1, h.defers.mono hle.stays, fun t => ?_⟩
    have hlt := hd d rfl
    simp only [putF, get_set, Act.put]
    by_cases e : d = t
    · subst e
      rw [if_pos rfl]
      have : (a.tmps.setIfInBounds d c).getD d undef = c := by simp [h.size, hlt]
      rw [this, hb]; exact hv
    · rw [if_neg e]
      have : (a.tmps.setIfInBounds d c).getD t undef = a.tmps.getD t undef := by simp [Array.getElem?_setIfInBounds_ne e]
      rw [this]; exact old t

theorem splitB_out {b : Bool} {K : Bool → Prop} (h : splitB b K) : K b := h.out

theorem putK_eq (fr : FR) (d : Option Nat) (v : AV) (K : FR → Prop) : putK fr d v K = K (putF fr d v) := by
  cases d
  · rfl
  · exact setK_eq _ _ _ _

/-- What follows an operation. -/
def nextK (P : Program) (d : Bool) (o : IO_) (r : List IO_) (fr : FR) (K : FR → List Ob → List Ob → Prop) (v : AV) (ba lo : List Ob) : Prop :=
  match o.split with
  | false => putK fr o.dst v fun fr => opsV P d r fr ba lo K
  | true => match v with
    | .p (.bool b) => splitB b fun b => putK fr o.dst (.p (.bool b)) fun fr => opsV P d r fr ba lo K
    | _ => False

theorem nextK_out {d : Bool} {o : IO_} {r : List IO_} {K : FR → List Ob → List Ob → Prop} {v : AV} (h : nextK P d o r fr K v ba lo) : opsV P d r (putF fr o.dst v) ba lo K := by
  unfold nextK at h
  split at h
  · rwa [putK_eq] at h
  · split at h
    · have := splitB_out h
      rwa [putK_eq] at this
    · exact h.elim

/-- Not what the guard asks for. -/
inductive Unw : AV → Bool → Prop
  | bool (b : Bool) : Unw (.p (.bool b)) (!b)
  | skip (b : Bool) : Unw (.p (.tup [])) b

theorem VA.skip (Γ : Ctx) (w : World) : VA Γ w undef (.p (.tup [])) := .p _ _ (.tup #[] [] rfl fun j x c h => by simp at h)

theorem VA.unw {Γ : Ctx} {w : World} {v : Value} {a : AV} {b : Bool} (h : VA Γ w v a) (hu : Unw a b) : v ≠ .bool b := by
  cases hu with
  | bool b' => rw [h.bool_inv]; cases b' <;> simp
  | skip =>
    have := h.pv
    cases this with
    | tup xs _ _ _ => simp

/-- An operation with a guard, or without. -/
theorem opsV_cons {d : Bool} {o : IO_} {r : List IO_} {K : FR → List Ob → List Ob → Prop} (h : opsV P d (o :: r) fr ba lo K) :
    ((∀ t b, o.guard = some (t, b) → getF fr t = .p (.bool b)) ∧ opV P d o.op fr ba lo (nextK P d o r fr K)) ∨
    (∃ t b, o.guard = some (t, b) ∧ Unw (getF fr t) b ∧ opsV P d r (putF fr o.dst (.p (.tup []))) ba lo K) := by
  replace h : opsStep P d o (opsV P d r) fr ba lo K := h
  unfold opsStep at h
  split at h
  · rename_i hg
    exact .inl ⟨fun t b e => (by rw [hg] at e; cases e), h⟩
  · rename_i t b hg
    rw [getK_eq] at h
    split at h
    · have e : getF fr t = .p (.bool true) := by assumption
      exact .inl ⟨fun t' b' e' => (by rw [hg] at e'; cases e'; exact e), h⟩
    · have e : getF fr t = .p (.bool false) := by assumption
      exact .inl ⟨fun t' b' e' => (by rw [hg] at e'; cases e'; exact e), h⟩
    · have e : getF fr t = .p (.bool true) := by assumption
      rw [putK_eq] at h
      exact .inr ⟨t, false, hg, by rw [e]; exact .bool true, h⟩
    · have e : getF fr t = .p (.bool false) := by assumption
      rw [putK_eq] at h
      exact .inr ⟨t, true, hg, by rw [e]; exact .bool false, h⟩
    · have e : getF fr t = .p (.tup []) := by assumption
      rw [putK_eq] at h
      exact .inr ⟨t, true, hg, by rw [e]; exact .skip _, h⟩
    · have e : getF fr t = .p (.tup []) := by assumption
      rw [putK_eq] at h
      exact .inr ⟨t, false, hg, by rw [e]; exact .skip _, h⟩
    · exact h.elim

theorem compI_out {own : List Nat} {all : List Oper} {i : Nat} {o : Oper} {io : IO_} (h : compI P N own all i o = some io) :
    (∀ t, o.dst = some t → t < N) ∧ compO P own o = some io.op ∧ io.dst = o.dst ∧ (o.guard = none ∧ io.guard = none ∨ ∃ j b g t, o.guard = some (j, b) ∧ all[j]? = some g ∧ g.dst = some t ∧ io.guard = some (t, b)) := by
  unfold compI at h
  split at h
  · cases h
  · rename_i hd
    have hd' : ∀ t, o.dst = some t → t < N := fun t e => by
      rw [e] at hd
      have h9 : t + 1 ≤ N := by simpa [Nat.blt] using hd
      exact h9
    split at h
    · cases h
    · rename_i op hop
      split at h
      · rename_i hg
        cases h
        exact ⟨hd', hop, rfl, .inl ⟨hg, rfl⟩⟩
      · rename_i j b hg
        split at h
        · rename_i g hj
          split at h
          · rename_i t ht
            cases h
            exact ⟨hd', hop, rfl, .inr ⟨j, b, g, t, hg, hj, ht, rfl⟩⟩
          · cases h
        · cases h

/-- Is an operation wanted? -/
theorem wanted_of {own : List Nat} {all : List Oper} {i : Nat} {o : Oper} {io : IO_} (hc : compI P N own all i o = some io) (h : ∀ t b, io.guard = some (t, b) → a.tmps.getD t undef = .bool b) : Region.wanted o (yielded all.toArray a.tmps) = true := by
  obtain ⟨_, _, _, h1 | ⟨j, b, g, t, h1, h2, h3, h4⟩⟩ := compI_out hc
  · unfold Region.wanted; rw [h1.1]
  · unfold Region.wanted
    rw [h1]
    have hb := h t b h4
    have : a.tmps[t]? = some (.bool b) := by
      cases he : a.tmps[t]? with
      | none => simp [he, undef] at hb
      | some v => simp [he] at hb; rw [hb]
    simp [yielded, h2, h3, this]
theorem unwanted_of {own : List Nat} {all : List Oper} {i : Nat} {o : Oper} {io : IO_} (hc : compI P N own all i o = some io) {t : Nat} {b : Bool} (hg : io.guard = some (t, b)) (hb : a.tmps.getD t undef ≠ .bool b) : Region.wanted o (yielded all.toArray a.tmps) = false := by
  obtain ⟨_, _, _, h1 | ⟨j, b', g, t', h1, h2, h3, h4⟩⟩ := compI_out hc
  · rw [h1.2] at hg; cases hg
  · rw [h4] at hg
    cases hg
    unfold Region.wanted
    rw [h1]
    have h2' : all.toArray[j]? = some g := by simpa using h2
    have : yielded all.toArray a.tmps j ≠ some b := by
      unfold yielded
      rw [h2']
      simp only [Option.bind_some, h3]
      intro e
      split at e
      · rename_i c hc
        cases e
        exact hb (by simp [hc])
      · cases e
    simpa using this

theorem enters_run {f : Nat} (h : enters P f = true) (args : Array Value) (w : World) : (callFunc f args).run P w = .ok (.enter f args) w := by
  unfold enters at h
  split at h
  · rename_i fn hf
    simp only [Bool.and_eq_true, Bool.not_eq_true'] at h
    obtain ⟨h1, h2⟩ := h
    have h3 : ¬ fn.body = none := by intro e; rw [e] at h1; cases h1
    have h4 : ¬ fn.name = "runtime.NumGoroutine" := by simpa using h2
    unfold callFunc
    simp [hf, h3, h4]
  · cases h

theorem isCall_out {own : List Nat} {o : Oper} {i : IOp} (hc : compO P own o = some i) (hn : isCall i = true) : ∃ c i', o.op = .call c ∧ compCall P c = some i' ∧ isCall i' = true ∧ (i' = i ∨ ∃ f a, i' = .call f a ∧ i = .callE f a) := by
  have hi := Option.some.inj hc
  cases h0 : compO0 P own o with
  | none => rw [h0] at hi; subst hi; cases hn
  | some j =>
  rw [h0] at hi
  simp only [Option.getD_some] at hi
  obtain ⟨hm, hnj⟩ : (j = i ∨ ∃ f a, j = .call f a ∧ i = .callE f a) ∧ isCall j = true := by
    rcases markE_out own o j with h1 | ⟨f, a, h2, h1⟩ | ⟨sz, _, h1⟩
    · rw [h1] at hi
      exact ⟨.inl hi, by rw [hi]; exact hn⟩
    · rw [h1] at hi
      exact ⟨.inr ⟨f, a, h2, hi.symm⟩, by rw [h2]; rfl⟩
    · rw [h1] at hi; rw [← hi] at hn; cases hn
  clear hn hi hc
  have hc := h0
  have hn := hnj
  suffices h : ∃ c, o.op = .call c ∧ compCall P c = some j by
    obtain ⟨c, h1, h2⟩ := h
    exact ⟨c, j, h1, h2, hnj, hm⟩
  clear hm h0 hnj
  unfold compO0 at hc
  cases hop : o.op with
  | call c => rw [hop] at hc; exact ⟨c, rfl, hc⟩
  | _ =>
    rw [hop] at hc
    simp only at hc
    repeat' split at hc
    all_goals first
      | (cases hc; done)
      | (cases hc; cases hn; done)
      | contradiction
      | (obtain ⟨_, _, rfl⟩ := map_some hc; cases hn; done)

/-- What is read is no 'defer' statement. -/
theorem not_defer {d : Bool} {own : List Nat} {o : Oper} {i : IOp} {fr : FR} {ba lo : List Ob} {K : AV → List Ob → List Ob → Prop} (hc : compO P own o = some i) (h : opV P d i fr ba lo K) : ∀ c, o.op ≠ .defer c := by
  intro c e
  have h0 : compO0 P own o = none := by unfold compO0; rw [e]
  have hb : i = .bad := by
    unfold compO at hc
    rw [h0] at hc
    exact (Option.some.inj hc).symm
  subst hb
  exact (show False from h)

/-- A call, as an operation. -/
theorem call_op {o : Oper} {i : IOp} {own : List Nat} {K : AV → List Ob → List Ob → Prop} (hc : compO P own o = some i) (hn : isCall i = true) (h : opV P false i fr ba lo K) (hi : Inv μ w ba lo) (hr : Opnds o a μ w ba fr) {next : Act → World → Prop} {Q : Exit → Act → World → Prop}
    (hk : ∀ v r μ' w' ba' lo', VA ⟨blocks μ', ba.length, μ'⟩ w' v r → Inv μ' w' ba' lo' → Le μ w μ' w' → ba'.length = ba.length → K r ba' lo' → next (a.put o.dst v) w') : o.wpIn (FW ro) nd P a w next Q := by
  obtain ⟨c, i', ho, hcc, hn', hii⟩ := isCall_out hc hn
  replace h : opV P false i' fr ba lo K := by
    rcases hii with rfl | ⟨f, a, rfl, rfl⟩
    · exact h
    · exact h
  clear hii hn hc
  have hn := hn'
  obtain ⟨callee, args, ats⟩ := c
  have enter : ∀ (f : Nat) (xs : Array Value) (as : List AV), (execOp a.eval o).run P w = .ok (.enter f xs) w → VAs ⟨blocks μ, ba.length, μ⟩ w xs as → CallVC P f as ba lo K → o.wpIn (FW ro) nd P a w next Q := fun f xs as h1 h2 h3 => by
    unfold Oper.wpIn
    refine ⟨fun _ _ => trivial, ?_⟩
    rw [Oper.semAt_eq _ _ _ (fun c e => by rw [ho] at e; cases e), h1]
    refine ⟨fun e => (by cases e), (calls_FW ro (nd - 1) (call_back h3 hi h2)).mono fun e w' hw => ?_⟩
    obtain ⟨v, r, μ', ba', lo', rfl, g1, g2, g3, g4, g5⟩ := hw
    exact hk v r μ' w' ba' lo' g1 g2 g3 g4 g5
  have argsV : ∀ {rs : List Rv}, rvs args.toList = some rs → VAs ⟨blocks μ, ba.length, μ⟩ w (args.map a.eval) (rs.map fun r => evF r fr) := fun {rs} hrs => by
    obtain ⟨a1, a2⟩ := rvs_sound fr (a := a) (w := w) (Γ := ⟨blocks μ, ba.length, μ⟩) hrs (fun x r hm hxr => hr x r (by rw [ho]; simp [Op.operands, Call.operands]; simp at hm; simp [hm]) hxr)
    exact ⟨by simpa using a1, fun j x c hj hcj => a2 j x c (by simpa using hj) hcj⟩
  unfold compCall at hcc
  simp only at hcc
  split at hcc
  · repeat' split at hcc
    all_goals first
      | (cases hcc; cases hn; done)
      | cases hcc
  · repeat' split at hcc
    all_goals first
      | (cases hcc; cases hn; done)
      | cases hcc
  · repeat' split at hcc
    all_goals first
      | (cases hcc; cases hn; done)
      | cases hcc
  · repeat' split at hcc
    all_goals first
      | (cases hcc; cases hn; done)
      | cases hcc
  · rename_i f
    split at hcc
    · rename_i hen
      obtain ⟨rs, hrs, rfl⟩ := map_some hcc
      simp only [opV, evsK_eq] at h
      refine enter f (args.map a.eval) _ ?_ (argsV hrs) h
      simp [execOp, ho, resolve, Act.eval, Deferred.ofValue, invoke, enters_run hen]
    · obtain ⟨rs, hrs, rfl⟩ := map_some hcc; cases hn
  · rename_i t
    obtain ⟨rs, hrs, rfl⟩ := map_some hcc
    simp only [opV, evK_eq, evsK_eq] at h
    have hv : VA ⟨blocks μ, ba.length, μ⟩ w (a.tmps.getD t undef) (getF fr t) := hr (.tmp t) (.t t) (by rw [ho]; simp [Op.operands, Call.operands]) rfl
    split at h
    · rename_i l e1
      rw [show getF fr t = _ from e1] at hv
      have hp := hv.pv
      generalize hx : a.tmps.getD t undef = x at hp
      cases hp
      obtain ⟨fn, tmps, assign, body, hy, hround⟩ := h.out (nd - 1) μ w _ hi (argsV hrs)
      have hx' : a.eval (.tmp t) = .func (.yield l) #[] #[] := hx
      unfold Oper.wpIn
      refine ⟨fun _ _ => trivial, ?_⟩
      rw [Oper.semAt_eq _ _ _ (fun c e => by rw [ho] at e; cases e)]
      have hrun : (execOp a.eval o).run P w = .ok (.round l fn tmps assign body) w := by
        simp [execOp, ho, resolve, hx', Deferred.ofValue, invoke, hy]
      rw [hrun]
      refine ⟨fun e => (by cases e), RoundIn.mono (F := FW ro) hround fun e w' hw => ?_⟩
      obtain ⟨v, r, μ', ba', lo', rfl, g1, g2, g3, g4, g5⟩ := hw
      exact hk v r μ' w' ba' lo' g1 g2 g3 g4 g5
    · rename_i f e1
      obtain ⟨hen, h⟩ := h
      rw [show getF fr t = _ from e1] at hv
      have hp := hv.pv
      generalize hx : a.tmps.getD t undef = x at hp
      cases hp
      refine enter f (args.map a.eval) _ ?_ (argsV hrs) h
      have hx' : a.eval (.tmp t) = .func (.func f) #[] #[] := hx
      simp [execOp, ho, resolve, hx', Deferred.ofValue, invoke, enters_run hen]
    · rename_i f as bs e1
      obtain ⟨hen, h⟩ := h
      rw [show getF fr t = _ from e1] at hv
      generalize hx : a.tmps.getD t undef = x at hv
      cases hv with
      | clos _ xs ys _ _ h1 h2 h3 h4 =>
        have hx' : a.eval (.tmp t) = .func (.func f) xs ys := hx
        obtain ⟨q1, q2⟩ := argsV hrs
        refine enter f (xs ++ args.map a.eval ++ ys) _ (by simp [execOp, ho, resolve, hx', Deferred.ofValue, invoke, enters_run hen]) ?_ h
        refine ⟨by simp only [Array.size_append, List.length_append, h1, h2, q1], fun j x c hj hcj => ?_⟩
        rw [Array.append_assoc] at hj
        rw [List.append_assoc] at hcj
        rcases Nat.lt_or_ge j as.length with hl | hl
        · rw [Array.getElem?_append_left (by omega)] at hj
          rw [List.getElem?_append_left hl] at hcj
          exact h3 j x c hj hcj
        · rw [Array.getElem?_append_right (by omega), h1] at hj
          rw [List.getElem?_append_right hl] at hcj
          rcases Nat.lt_or_ge (j - as.length) (rs.map fun r => evF r fr).length with hl2 | hl2
          · rw [Array.getElem?_append_left (by rw [q1]; exact hl2)] at hj
            rw [List.getElem?_append_left hl2] at hcj
            exact q2 _ x c hj hcj
          · rw [Array.getElem?_append_right (by rw [q1]; exact hl2), q1] at hj
            rw [List.getElem?_append_right hl2] at hcj
            exact h4 _ x c hj hcj
    · exact h.elim
  · cases hcc

/-- OPERATIONS IN THEIR ORDER. -/
theorem ops_sound {own : List Nat} {all : List Oper} {Q : Exit → Act → World → Prop} {K : FR → List Ob → List Ob → Prop} : ∀ (l : List Oper) (is : List IO_) (i : Nat), all.drop i = l → compOps P N own all i l = some is → ∀ {fr : FR} {ba lo : List Ob}, opsV P false is fr ba lo K →
    ∀ {μ : List MI} {w : World} {a : Act}, Rel N B μ w a fr ba lo → (∀ fr' ba' lo' μ' w' a', K fr' ba' lo' → Rel N B μ' w' a' fr' ba' lo' → Le μ w μ' w' → ba'.length = ba.length → Q .normal a' w') → wpOpsIn (FW ro) nd P all.toArray Q (List.range' i l.length) a w
  | [], is, i, _, hc, fr, ba, lo, h, μ, w, a, hr, hq => by
    cases hc
    exact hq fr ba lo μ w a h hr (.refl _ _) rfl
  | o :: l, is, i, hd, hc, fr, ba, lo, h, μ, w, a, hr, hq => by
    simp only [compOps] at hc
    split at hc
    · rename_i io ios hio hios
      cases hc
      have hgo : all[i]? = some o := by
        have : (all.drop i)[0]? = some o := by rw [hd]; rfl
        rwa [List.getElem?_drop] at this
      have hd' : all.drop (i + 1) = l := by
        have : all.drop (i + 1) = (all.drop i).drop 1 := by rw [List.drop_drop]
        rw [this, hd]; rfl
      obtain ⟨c1, c2, c3, c4⟩ := compI_out hio
      have rest : ∀ {v : AV} {c : Value} {μ' : List MI} {w' : World} {ba' lo' : List Ob}, VA ⟨blocks μ', ba.length, μ'⟩ w' c v → Inv μ' w' ba' lo' → Le μ w μ' w' → ba'.length = ba.length → opsV P false ios (putF fr io.dst v) ba' lo' K →
          wpOpsIn (FW ro) nd P all.toArray Q (List.range' (i + 1) l.length) (a.put o.dst c) w' := fun {v c μ' w' ba' lo'} g1 g2 g3 g4 g5 => by
        rw [c3] at g5
        exact ops_sound l ios (i + 1) hd' hios g5 (hr.put c1 g2 g3 g4 g1) fun fr' ba'' lo'' μ'' w'' a' k1 k2 k3 k4 => hq fr' ba'' lo'' μ'' w'' a' k1 k2 (g3.trans k3) (k4.trans g4)
      simp only [List.length_cons, List.range'_succ, wpOpsIn]
      have hgo' : all.toArray[i]? = some o := by simpa using hgo
      simp only [hgo']
      rcases opsV_cons h with ⟨hg, h⟩ | ⟨t, b, hg, hv, h⟩
      · rw [if_pos (wanted_of hio fun t b e => by have hv := hr.vals t; rw [hg t b e] at hv; exact hv.bool_inv)]
        cases hn : isCall io.op with
        | true => exact call_op c2 hn h hr.inv (hr.opnds o) fun v r μ' w' ba' lo' g1 g2 g3 g4 g5 => rest g1 g2 g3 g4 (nextK_out g5)
        | false =>
          obtain ⟨v, ba', lo', hk, hgv⟩ := op_out c2 hn h
          obtain ⟨c, w', μ', hrun, g1, g2, g3, g4⟩ := hgv μ w a hr.inv (hr.opnds o)
          unfold Oper.wpIn
          refine ⟨fun _ _ => trivial, ?_⟩
          rw [Oper.semAt_eq _ _ _ (not_defer c2 h)]
          rcases hrun with hrun | ⟨hrun, rfl⟩
          · rw [hrun, Oper.uponIn_value]; exact rest g1 g2 g3 g4 (nextK_out hk)
          · rw [hrun, Oper.uponIn_skip]; exact rest g1 g2 g3 g4 (nextK_out hk)
      · rw [if_neg (by rw [unwanted_of hio hg ((hr.vals t).unw hv)]; simp)]
        exact ⟨fun _ _ => trivial, rest (.skip _ _) hr.inv (.refl _ _) rfl h⟩
    · cases hc

end
end Go.Proofs.Ytkjidklifmcpnaa.AD
