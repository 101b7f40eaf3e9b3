/- A plainer machine, six: an object changes; the operations that read. -/
import Derived.Test.YtkjidklifmcpnaaA5
namespace Go.Proofs.Ytkjidklifmcpnaa.AD
set_option linter.unusedVariables false

theorem Inv.change {μ : List MI} {w w' : World} {ba lo ba' lo' : List Ob} (h : Inv μ w ba lo) {i : Nat} {m m' : MI} (hm : μ[i]? = some m) (hmm : MI.le m m')
    (hblk : ∀ b, m'.block? = some b → m.block? = some b ∨ w.heap.size ≤ b) (hos : w'.os = w.os) (htp : w'.tape = w.tape) (hou : w'.output = w.output) (hsz : w.heap.size ≤ w'.heap.size)
    (hb : ∀ b, b < w.heap.size → m.block? ≠ some b → w'.heap[b]? = w.heap[b]?) (hba : ba'.length = ba.length) (hlo : lo'.length = lo.length)
    (hsb : ∀ j, j ≠ i → ba'[j]? = ba[j]?) (hsl : ∀ k, ba.length + k ≠ i → lo'[k]? = lo[k]?)
    (hnb : Le μ w (μ.set i m') w' → ∀ o, i < ba.length → ba'[i]? = some o → ObOk ⟨blocks (μ.set i m'), ba.length, (μ.set i m').take ba.length⟩ w' m' o)
    (hnl : Le μ w (μ.set i m') w' → ∀ k o, i = ba.length + k → lo'[k]? = some o → ObOk ⟨blocks (μ.set i m'), ba.length, μ.set i m'⟩ w' m' o) :
    Inv (μ.set i m') w' ba' lo' ∧ Le μ w (μ.set i m') w' := by
  have hi := get_lt hm
  have get : ∀ (j : Nat) (m1 : MI), (μ.set i m')[j]? = some m1 → (j = i ∧ m1 = m') ∨ (j ≠ i ∧ μ[j]? = some m1) := fun j m1 h1 => by
    rw [List.getElem?_set] at h1
    by_cases e : i = j
    · subst e
      rw [if_pos rfl, if_pos hi] at h1
      exact .inl ⟨rfl, (Option.some.inj h1).symm⟩
    · rw [if_neg e] at h1
      exact .inr ⟨fun e2 => e e2.symm, h1⟩
  have habv : Above μ (μ.set i m') := fun j m1 h1 => by
    by_cases e : j = i
    · subst e
      rw [hm] at h1
      cases h1
      exact ⟨m', by rw [List.getElem?_set]; simp [hi], hmm⟩
    · exact ⟨m1, by rw [List.getElem?_set_ne (fun e2 => e e2.symm)]; exact h1, .refl _⟩
  have hst : Stays (blocks μ) w (blocks (μ.set i m')) w' := ⟨hsz, fun b hlt hmb => ⟨fun ⟨j, m1, h1, h2⟩ => by
    rcases get j m1 h1 with ⟨e1, e2⟩ | ⟨e1, e2⟩
    · subst e2
      rcases hblk b h2 with h3 | h3
      · exact hmb ⟨i, m, hm, h3⟩
      · omega
    · exact hmb ⟨j, m1, e2, h2⟩, hb b hlt fun h3 => hmb ⟨i, m, hm, h3⟩⟩⟩
  have hle : Le μ w (μ.set i m') w' := ⟨hos, htp, hou, habv, hst⟩
  have keep : ∀ {j : Nat} {m1 : MI}, j ≠ i → μ[j]? = some m1 → ∀ {Γ : Ctx} {o : Ob}, ObOk Γ w m1 o → ∀ b, m1.block? = some b → w'.heap[b]? = w.heap[b]? := fun {j m1} hj h1 {Γ o} ho b hb1 =>
    hb b (ho.block_lt hb1) fun h2 => hj (h.apart j i m1 m b h1 hm hb1 h2)
  refine ⟨⟨by rw [List.length_set, h.len, hba, hlo], fun a c m1 m2 b h1 h2 hb1 hb2 => ?_, fun j o ho => ?_, fun k o ho => ?_⟩, hle⟩
  · rcases get a m1 h1 with ⟨e1, e2⟩ | ⟨e1, e2⟩ <;> rcases get c m2 h2 with ⟨f1, f2⟩ | ⟨f1, f2⟩
    · omega
    · subst e2
      rcases hblk b hb1 with h3 | h3
      · exact absurd (h.apart i c m m2 b hm f2 h3 hb2) (fun e => f1 e.symm)
      · have := h.block_lt ⟨c, m2, f2, hb2⟩; omega
    · subst f2
      rcases hblk b hb2 with h3 | h3
      · exact absurd (h.apart a i m1 m b e2 hm hb1 h3) e1
      · have := h.block_lt ⟨a, m1, e2, hb1⟩; omega
    · exact h.apart a c m1 m2 b e2 f2 hb1 hb2
  · rw [hba]
    by_cases e : j = i
    · subst e
      exact ⟨m', by rw [List.getElem?_set]; simp [hi], hnb hle o (by rw [← hba]; exact get_lt ho) ho⟩
    · rw [hsb j e] at ho
      obtain ⟨m1, h1, h2⟩ := h.bases j o ho
      refine ⟨m1, by rw [List.getElem?_set_ne (fun e2 => e e2.symm)]; exact h1, h2.mono hst ?_ (keep e h1 h2)⟩
      intro a m2 h3
      rw [List.getElem?_take] at h3
      split at h3
      · rename_i hlt
        obtain ⟨m3, h4, h5⟩ := habv a m2 h3
        exact ⟨m3, by rw [List.getElem?_take, if_pos hlt]; exact h4, h5⟩
      · cases h3
  · rw [hba]
    by_cases e : ba.length + k = i
    · subst e
      exact ⟨m', by rw [List.getElem?_set]; simp [hi], hnl hle k o rfl ho⟩
    · rw [hsl k e] at ho
      obtain ⟨m1, h1, h2⟩ := h.locs k o ho
      exact ⟨m1, by rw [List.getElem?_set_ne (fun e2 => e e2.symm)]; exact h1, h2.mono hst habv (keep e h1 h2)⟩

/-- What an operation is to come to. -/
def Gives (P : Program) (o : Oper) (a : Act) (μ : List MI) (w : World) (ba : List Ob) (v : AV) (ba' lo' : List Ob) : Prop :=
  ∃ c w' μ', ((execOp a.eval o).run P w = .ok (.value c) w' ∨ ((execOp a.eval o).run P w = .ok .skip w' ∧ c = undef)) ∧ VA ⟨blocks μ', ba.length, μ'⟩ w' c v ∧ Inv μ' w' ba' lo' ∧ Le μ w μ' w' ∧ ba'.length = ba.length

/-- Its operands stand for what they are read as. -/
def Opnds (o : Oper) (a : Act) (μ : List MI) (w : World) (ba : List Ob) (fr : FR) : Prop :=
  ∀ (x : Operand) (r : Rv), x ∈ o.op.operands.toList → rv x = some r → VA ⟨blocks μ, ba.length, μ⟩ w (a.eval x) (evF r fr)

def Sound1 (P : Program) (o : Oper) (fr : FR) (ba lo : List Ob) (K : AV → List Ob → List Ob → Prop) : Prop :=
  ∃ v ba' lo', K v ba' lo' ∧ ∀ μ w a, Inv μ w ba lo → Opnds o a μ w ba fr → Gives P o a μ w ba v ba' lo'

/-- An operation that leaves the world alone. -/
theorem Sound1.quiet {P : Program} {o : Oper} {fr : FR} {ba lo : List Ob} {K : AV → List Ob → List Ob → Prop} (v : AV) (hk : K v ba lo)
    (h : ∀ μ w a, Inv μ w ba lo → Opnds o a μ w ba fr → ∃ c, (execOp a.eval o).run P w = .ok (.value c) w ∧ VA ⟨blocks μ, ba.length, μ⟩ w c v) : Sound1 P o fr ba lo K :=
  ⟨v, ba, lo, hk, fun μ w a hi hx => by
    obtain ⟨c, h1, h2⟩ := h μ w a hi hx
    exact ⟨c, w, μ, .inl h1, h2, hi, .refl _ _, rfl⟩⟩

theorem absP_sound {v : Value} {e : PV} (h : absP v = some e) (M : Nat → Prop) (w : World) : VP M w v e ∧ v.oneCell' = true := by
  unfold absP at h
  split at h <;> first
    | (cases h; exact ⟨by constructor, rfl⟩)
    | cases h
theorem absPs_sound : ∀ {l : List Value} {es : List PV}, absPs l = some es → ∀ (M : Nat → Prop) (w : World), l.length = es.length ∧ (∀ (j : Nat) (x : Value) (c : PV), l[j]? = some x → es[j]? = some c → VP M w x c) ∧ ∀ (j : Nat) (x : Value), l[j]? = some x → x.oneCell' = true
  | [], es, h, M, w => by
    cases h
    exact ⟨rfl, fun j x c h => by simp at h, fun j x h => by simp at h⟩
  | v :: r, es, h, M, w => by
    simp only [absPs] at h
    split at h
    · rename_i c cs h1 h2
      cases h
      obtain ⟨a1, a2⟩ := absP_sound h1 M w
      obtain ⟨b1, b2, b3⟩ := absPs_sound h2 M w
      refine ⟨by simp [b1], fun j x c hx hc => ?_, fun j x hx => ?_⟩
      · cases j with
        | zero => simp at hx hc; subst hx; subst hc; exact a1
        | succ j => exact b2 j x c (by simpa using hx) (by simpa using hc)
      · cases j with
        | zero => simp at hx; subst hx; exact a2
        | succ j => exact b3 j x (by simpa using hx)
    · cases h
theorem absZ_sound {v : Value} {e : PV} (h : absZ v = some e) (M : Nat → Prop) (w : World) : VP M w v e := by
  unfold absZ at h
  split at h
  · rename_i cs
    obtain ⟨es, h1, rfl⟩ := Option.map_eq_some_iff.1 h
    obtain ⟨a1, a2, a3⟩ := absPs_sound h1 M w
    exact .agg cs es (by simpa using a1) (fun j x c hx hc => a2 j x c (by simpa using hx) hc) (fun j x hx => a3 j x (by simpa using hx))
  · exact (absP_sound h M w).1

theorem rv_const {Γ : Ctx} {w : World} {a : Act} {x : Operand} {e : AV} (h : rv x = some (.v e)) : VA Γ w (a.eval x) e := by
  cases x with
  | tmp t => cases h
  | const v =>
    simp only [rv] at h
    obtain ⟨e', h1, h2⟩ := Option.map_eq_some_iff.1 h
    cases h2
    exact .p _ _ (absZ_sound h1 _ _)
  | func f => cases h; exact .p _ _ (.fn _)
  | global g => cases h

section ops
variable {P : Program} {o : Oper} {fr : FR} {ba lo : List Ob} {K : AV → List Ob → List Ob → Prop}

theorem s_mv {x : Operand} {r : Rv} (hm : x ∈ o.op.operands.toList) (ho : ∀ a w, (execOp (Act.eval a) o).run P w = .ok (.value (a.eval x)) w) (hr : rv x = some r) (h : K (evF r fr) ba lo) : Sound1 P o fr ba lo K :=
  .quiet _ h fun μ w a hi hx => ⟨a.eval x, ho a w, hx x r hm hr⟩

theorem VA.bool_inv {Γ : Ctx} {w : World} {v : Value} {b : Bool} (h : VA Γ w v (.p (.bool b))) : v = .bool b := by cases h with | p _ _ h => cases h; rfl
theorem VA.int_inv {Γ : Ctx} {w : World} {v : Value} {k : IntKind} {n : Int} (h : VA Γ w v (.p (.int k n))) : v = .int k n := by cases h with | p _ _ h => cases h; rfl
theorem VA.str_inv {Γ : Ctx} {w : World} {v : Value} {s : ByteArray} (h : VA Γ w v (.p (.str s))) : v = .string s := by cases h with | p _ _ h => cases h; rfl
theorem VA.pv {Γ : Ctx} {w : World} {v : Value} {e : PV} (h : VA Γ w v (.p e)) : VP Γ.M w v e := by cases h with | p _ _ h => exact h
theorem VA.bool' (Γ : Ctx) (w : World) (b : Bool) : VA Γ w (.bool b) (.p (.bool b)) := .p _ _ (.bool b)
theorem VA.int' (Γ : Ctx) (w : World) (k : IntKind) (n : Int) : VA Γ w (.int k n) (.p (.int k n)) := .p _ _ (.int k n)
theorem VA.str' (Γ : Ctx) (w : World) (s : ByteArray) : VA Γ w (.string s) (.p (.str s)) := .p _ _ (.str s)

theorem s_pick {d : Bool} {c x y : Operand} {rc rx ry : Rv} (ho : o.op = .pick c x y) (hc : rv c = some rc) (hx : rv x = some rx) (hy : rv y = some ry) (h : opV P d (.pick rc rx ry) fr ba lo K) : Sound1 P o fr ba lo K := by
  simp only [opV, evK_eq] at h
  split at h
  · rename_i e
    refine .quiet _ h fun μ w a hi hv => ⟨a.eval x, ?_, hv x rx (by simp [ho, Op.operands]) hx⟩
    have h1 := hv c rc (by simp [ho, Op.operands]) hc
    rw [e] at h1
    simp [execOp, ho, h1.bool_inv, asBool]
  · rename_i e
    refine .quiet _ h fun μ w a hi hv => ⟨a.eval y, ?_, hv y ry (by simp [ho, Op.operands]) hy⟩
    have h1 := hv c rc (by simp [ho, Op.operands]) hc
    rw [e] at h1
    simp [execOp, ho, h1.bool_inv, asBool]
  · exact h.elim

end ops

end Go.Proofs.Ytkjidklifmcpnaa.AD
