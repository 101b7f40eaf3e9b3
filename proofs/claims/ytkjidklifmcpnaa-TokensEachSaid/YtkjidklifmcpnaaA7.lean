/- A plainer machine, seven: operations on numbers, texts, and values that nobody writes. -/
import Derived.Test.YtkjidklifmcpnaaA6
namespace Go.Proofs.Ytkjidklifmcpnaa.AD
set_option linter.unusedVariables false

section ops
variable {P : Program} {o : Oper} {fr : FR} {ba lo : List Ob} {K : AV → List Ob → List Ob → Prop} {d : Bool}

/-- The operands of an operation of one, two operands. -/
theorem Opnds.get {a : Act} {μ : List MI} {w : World} (h : Opnds o a μ w ba fr) {x : Operand} {r : Rv} (hm : x ∈ o.op.operands.toList) (hr : rv x = some r) {e : AV} (he : evF r fr = e) : VA ⟨blocks μ, ba.length, μ⟩ w (a.eval x) e := he ▸ h x r hm hr

theorem kindK_out {j k : IntKind} {K : Prop} (h : kindK j k K) : j = k ∧ K := by
  cases j <;> cases k <;> first | exact ⟨rfl, h⟩ | exact h.elim

theorem binI_out {op : BinOp} {k : IntKind} {a b : Int} {K : AV → Prop} (t : TypeId) (P : Program) (h : binI op k a b K) : ∃ v c, K v ∧ (∀ (Γ : Ctx) w, VA Γ w c v) ∧ ∀ w, (binOp op t (.int k a) (.int k b)).run P w = .ok c w := by
  cases op <;> simp only [binI] at h
  case add => exact ⟨_, _, h, fun Γ w => VA.int' Γ w _ _, fun w => by simp [binOp, Op.intArith]⟩
  case sub => exact ⟨_, _, h, fun Γ w => VA.int' Γ w _ _, fun w => by simp [binOp, Op.intArith]⟩
  case mul => exact ⟨_, _, h, fun Γ w => VA.int' Γ w _ _, fun w => by simp [binOp, Op.intArith]⟩
  case quo => exact ⟨_, _, h.2, fun Γ w => VA.int' Γ w _ _, fun w => by simp [binOp, Op.intDiv, h.1]⟩
  case rem => exact ⟨_, _, h.2, fun Γ w => VA.int' Γ w _ _, fun w => by simp [binOp, Op.intDiv, h.1]⟩
  case and => exact ⟨_, _, h, fun Γ w => VA.int' Γ w _ _, fun w => by simp [binOp, Op.intBits]⟩
  case or => exact ⟨_, _, h, fun Γ w => VA.int' Γ w _ _, fun w => by simp [binOp, Op.intBits]⟩
  case xor => exact ⟨_, _, h, fun Γ w => VA.int' Γ w _ _, fun w => by simp [binOp, Op.intBits]⟩
  case andNot => exact ⟨_, _, h, fun Γ w => VA.int' Γ w _ _, fun w => by simp [binOp, Op.intBits]⟩
  case eql => exact ⟨_, _, h, fun Γ w => VA.bool' Γ w _, fun w => by simp [binOp, Op.intCmp]⟩
  case neq => exact ⟨_, _, h, fun Γ w => VA.bool' Γ w _, fun w => by simp [binOp, Op.intCmp]⟩
  case lss => exact ⟨_, _, h, fun Γ w => VA.bool' Γ w _, fun w => by simp [binOp, Op.intCmp]⟩
  case leq => exact ⟨_, _, h, fun Γ w => VA.bool' Γ w _, fun w => by simp [binOp, Op.intCmp]⟩
  case gtr => exact ⟨_, _, h, fun Γ w => VA.bool' Γ w _, fun w => by simp [binOp, Op.intCmp]⟩
  case geq => exact ⟨_, _, h, fun Γ w => VA.bool' Γ w _, fun w => by simp [binOp, Op.intCmp]⟩
  case shl => exact ⟨_, _, h.2, fun Γ w => VA.int' Γ w _ _, fun w => by simp [binOp, Op.shift, Int.not_lt.2 h.1]⟩
  case shr => exact ⟨_, _, h.2, fun Γ w => VA.int' Γ w _ _, fun w => by simp [binOp, Op.shift, Int.not_lt.2 h.1]⟩

theorem binSh_out {op : BinOp} {k j : IntKind} {a b : Int} {K : AV → Prop} (t : TypeId) (P : Program) (hs : isShift op = true) (h : binI op k a b K) : ∃ v c, K v ∧ (∀ (Γ : Ctx) w, VA Γ w c v) ∧ ∀ w, (binOp op t (.int k a) (.int j b)).run P w = .ok c w := by
  cases op <;> simp only [isShift, Bool.false_eq_true] at hs <;> simp only [binI] at h
  case shl => exact ⟨_, _, h.2, fun Γ w => VA.int' Γ w _ _, fun w => by simp [binOp, Op.shift, Int.not_lt.2 h.1]⟩
  case shr => exact ⟨_, _, h.2, fun Γ w => VA.int' Γ w _ _, fun w => by simp [binOp, Op.shift, Int.not_lt.2 h.1]⟩

theorem binS_out {op : BinOp} {a b : ByteArray} {K : AV → Prop} (t : TypeId) (P : Program) (h : binS op a b K) : ∃ v c, K v ∧ (∀ (Γ : Ctx) w, VA Γ w c v) ∧ ∀ w, (binOp op t (.string a) (.string b)).run P w = .ok c w := by
  cases op <;> simp only [binS] at h
  case add => exact ⟨_, _, h.2, fun Γ w => VA.str' Γ w _, fun w => by
    have : ¬ (((a.size + b.size : Nat) : Int) > IntKind.i64.max) := by have := h.1; show ¬ (_ > (9223372036854775807 : Int)); omega
    simp only [binOp, Op.stringOp, if_neg this]; rfl⟩
  case eql => exact ⟨_, _, h, fun Γ w => VA.bool' Γ w _, fun w => by simp [binOp, Op.stringOp]⟩
  case neq => exact ⟨_, _, h, fun Γ w => VA.bool' Γ w _, fun w => by simp [binOp, Op.stringOp]⟩
  case lss => exact ⟨_, _, h, fun Γ w => VA.bool' Γ w _, fun w => by simp [binOp, Op.stringOp, strLt]⟩
  case leq => exact ⟨_, _, h, fun Γ w => VA.bool' Γ w _, fun w => by simp [binOp, Op.stringOp, strLt]⟩
  case gtr => exact ⟨_, _, h, fun Γ w => VA.bool' Γ w _, fun w => by simp [binOp, Op.stringOp, strLt]⟩
  case geq => exact ⟨_, _, h, fun Γ w => VA.bool' Γ w _, fun w => by simp [binOp, Op.stringOp, strLt]⟩
  all_goals exact h.elim

theorem eqGuard_scalar (op : BinOp) (t : TypeId) (x y : Operand) (a b : Value) (w : World) (h : match a, b with | .int _ _, .int _ _ => True | .string _, .string _ => True | .bool _, .bool _ => True | _, _ => False) : (eqGuard op t x y a b).run P w = .ok () w := by
  unfold eqGuard
  cases a <;> cases b <;> first | exact h.elim | (cases op <;> rfl)

theorem s_bin {op : BinOp} {t yt : TypeId} {x y : Operand} {rx ry : Rv} (ho : o.op = .binOp op t x y yt) (hx : rv x = some rx) (hy : rv y = some ry) (h : opV P d (.bin op rx ry) fr ba lo K) : Sound1 P o fr ba lo K := by
  simp only [opV, evK_eq] at h
  have run : ∀ (a : Act) (w : World) (u v c : Value), a.eval x = u → a.eval y = v → (match u, v with | .int _ _, .int _ _ => True | .string _, .string _ => True | .bool _, .bool _ => True | _, _ => False) →
      (binOp op t u v).run P w = .ok c w → (execOp a.eval o).run P w = .ok (.value c) w := fun a w u v c h1 h2 h3 h4 => by
    simp only [execOp, ho, Sem.run_bind, h1, h2, eqGuard_scalar op t x y u v w h3, Result.andThen_ok, h4]
    rfl
  unfold binK at h
  split at h
  · rename_i k a j b e1 e2
    cases hs : isShift op with
    | true =>
      rw [hs] at h
      simp only [cond_true] at h
      obtain ⟨v, c, hk, hv, hr⟩ := binSh_out (j := j) t P hs h
      refine .quiet _ hk fun μ w act hi hp => ⟨c, ?_, hv _ _⟩
      exact run act w _ _ c (hp.get (by simp [ho, Op.operands]) hx e1).int_inv (hp.get (by simp [ho, Op.operands]) hy e2).int_inv trivial (hr w)
    | false =>
      rw [hs] at h
      simp only [cond_false] at h
      obtain ⟨rfl, h5⟩ := kindK_out h
      obtain ⟨v, c, hk, hv, hr⟩ := binI_out t P h5
      refine .quiet _ hk fun μ w act hi hp => ⟨c, ?_, hv _ _⟩
      exact run act w _ _ c (hp.get (by simp [ho, Op.operands]) hx e1).int_inv (hp.get (by simp [ho, Op.operands]) hy e2).int_inv trivial (hr w)
  · rename_i a b e1 e2
    obtain ⟨v, c, hk, hv, hr⟩ := binS_out t P h
    refine .quiet _ hk fun μ w act hi hp => ⟨c, ?_, hv _ _⟩
    exact run act w _ _ c (hp.get (by simp [ho, Op.operands]) hx e1).str_inv (hp.get (by simp [ho, Op.operands]) hy e2).str_inv trivial (hr w)
  · exact h.elim

theorem s_eqb {neg : Bool} {op : BinOp} {t yt : TypeId} {x y : Operand} {rx ry : Rv} (ho : o.op = .binOp op t x y yt) (hop : op = if neg then .neq else .eql) (ht : P.underlying t = some .bool) (hx : rv x = some rx) (hy : rv y = some ry) (h : opV P d (.eqb neg rx ry) fr ba lo K) : Sound1 P o fr ba lo K := by
  simp only [opV, evK_eq] at h
  split at h
  · rename_i a b e1 e2
    refine .quiet _ h fun μ w act hi hp => ⟨_, ?_, VA.bool' _ _ _⟩
    have h1 := (hp.get (by simp [ho, Op.operands]) hx e1).bool_inv
    have h2 := (hp.get (by simp [ho, Op.operands]) hy e2).bool_inv
    simp only [execOp, ho, Sem.run_bind, h1, h2]
    rw [eqGuard_scalar op t x y _ _ w trivial]
    cases neg
    · simp only [Bool.false_eq_true, if_false] at hop; subst hop
      simp only [Result.andThen_ok, run_eql_bool w t a b ht]; rfl
    · simp only [if_true] at hop; subst hop
      simp only [Result.andThen_ok, run_neq_bool w t a b ht]; rfl
  · exact h.elim

theorem VA.nilf_inv {Γ : Ctx} {w : World} {v : Value} (h : VA Γ w v (.p .nilf)) : v = .nilFunc := by cases h with | p _ _ h => cases h; rfl
theorem VA.fn_inv {Γ : Ctx} {w : World} {v : Value} {f : Fn} (h : VA Γ w v (.p (.fn f))) : v = .func f #[] #[] := by cases h with | p _ _ h => cases h; rfl
theorem VA.clos_inv {Γ : Ctx} {w : World} {v : Value} {f : Fn} {as bs : List AV} (h : VA Γ w v (.clos f as bs)) : ∃ us vs, v = .func f us vs := by cases h with | clos _ us vs => exact ⟨us, vs, rfl⟩
def isFn (q : Bool) : Value → Prop
  | .nilFunc => q = true
  | .func _ _ _ => q = false
  | _ => False
theorem run_equalIn_func {P : Program} {t : TypeId} {a : _} {b : _} {c : _} (ht : P.underlying t = some (.func a b c)) (w : World) (d : Nat) (x : Value) (q : Bool) (hx : isFn q x) : (Op.equalIn (d + 1) t x .nilFunc).run P w = .ok q w := by
  cases x <;> first | exact hx.elim | (have hx : q = _ := hx; subst hx; simp [Op.equalIn, run_underlying ht])
theorem run_equal_func {P : Program} {t : TypeId} {a : _} {b : _} {c : _} (ht : P.underlying t = some (.func a b c)) (w : World) (x : Value) (q : Bool) (hx : isFn q x) : (Op.equal t x .nilFunc).run P w = .ok q w := run_equalIn_func ht w 9999 x q hx
theorem run_eql_func {P : Program} {t : TypeId} {a : _} {b : _} {c : _} (ht : P.underlying t = some (.func a b c)) (w : World) (neg : Bool) (x : Value) (q : Bool) (hx : isFn q x) :
    (Go.binOp (if neg then .neq else .eql) t x .nilFunc).run P w = .ok (.bool (match neg with | true => !q | false => q)) w := by
  have h := run_equal_func ht w x q hx
  cases x <;> first | exact hx.elim | (cases neg <;> simp [Go.binOp, h])
theorem s_isNil {neg : Bool} {op : BinOp} {t yt : TypeId} {x y : Operand} {rx : Rv} {a b c : _} (ho : o.op = .binOp op t x y yt) (hop : op = if neg then .neq else .eql) (ht : P.underlying t = some (.func a b c)) (hx : rv x = some rx) (hy : rv y = some (.v (.p .nilf))) (h : opV P d (.isNil neg rx) fr ba lo K) : Sound1 P o fr ba lo K := by
  simp only [opV, evK_eq] at h
  have guard : ∀ (u : Value) (w : World), (match u with | .nilFunc => True | .func _ _ _ => True | _ => False) → (eqGuard op t x y u .nilFunc).run P w = .ok () w := by
    intro u w hu
    unfold eqGuard
    cases u <;> first | exact hu.elim | (cases op <;> rfl)
  split at h
  · rename_i e1
    refine .quiet _ h fun μ w act hi hp => ⟨_, ?_, VA.bool' _ _ _⟩
    have h1 := (hp.get (by simp [ho, Op.operands]) hx e1).nilf_inv
    have h2 := (hp.get (by simp [ho, Op.operands]) hy rfl).nilf_inv
    simp only [execOp, ho, Sem.run_bind, h1, h2]
    rw [guard _ w trivial]
    simp only [Result.andThen_ok, hop, run_eql_func ht w neg .nilFunc true rfl]
    cases neg <;> rfl
  · rename_i f e1
    refine .quiet _ h fun μ w act hi hp => ⟨_, ?_, VA.bool' _ _ _⟩
    have h1 := (hp.get (by simp [ho, Op.operands]) hx e1).fn_inv
    have h2 := (hp.get (by simp [ho, Op.operands]) hy rfl).nilf_inv
    simp only [execOp, ho, Sem.run_bind, h1, h2]
    rw [guard _ w trivial]
    simp only [Result.andThen_ok, hop, run_eql_func ht w neg (.func f #[] #[]) false rfl]
    cases neg <;> rfl
  · rename_i f as bs e1
    refine .quiet _ h fun μ w act hi hp => ⟨_, ?_, VA.bool' _ _ _⟩
    obtain ⟨us, vs, h1⟩ := (hp.get (by simp [ho, Op.operands]) hx e1).clos_inv
    have h2 := (hp.get (by simp [ho, Op.operands]) hy rfl).nilf_inv
    simp only [execOp, ho, Sem.run_bind, h1, h2]
    rw [guard _ w trivial]
    simp only [Result.andThen_ok, hop, run_eql_func ht w neg (.func f us vs) false rfl]
    cases neg <;> rfl
  · exact h.elim

theorem s_not {t : TypeId} {x : Operand} {rx : Rv} (ho : o.op = .unOp .not t x) (hx : rv x = some rx) (h : opV P d (.not rx) fr ba lo K) : Sound1 P o fr ba lo K := by
  simp only [opV, evK_eq] at h
  split at h
  · rename_i b e1
    refine .quiet _ h fun μ w act hi hp => ⟨_, ?_, VA.bool' _ _ _⟩
    have h1 := (hp.get (by simp [ho, Op.operands]) hx e1).bool_inv
    simp [execOp, ho, h1, Op.unary]
  · exact h.elim

theorem s_neg {t : TypeId} {x : Operand} {rx : Rv} (ho : o.op = .unOp .neg t x) (hx : rv x = some rx) (h : opV P d (.neg rx) fr ba lo K) : Sound1 P o fr ba lo K := by
  simp only [opV, evK_eq] at h
  split at h
  · rename_i k b e1
    refine .quiet _ h fun μ w act hi hp => ⟨_, ?_, VA.int' _ _ _ _⟩
    have h1 := (hp.get (by simp [ho, Op.operands]) hx e1).int_inv
    simp [execOp, ho, h1, Op.unary, Op.intArith]
  · exact h.elim

theorem s_conv {s t : TypeId} {k : IntKind} {x : Operand} {rx : Rv} (ho : o.op = .convert s t x) {j : IntKind} (hs : P.underlying s = some (.int j)) (ht : P.underlying t = some (.int k)) (hx : rv x = some rx) (h : opV P d (.conv k rx) fr ba lo K) : Sound1 P o fr ba lo K := by
  simp only [opV, evK_eq] at h
  split at h
  · rename_i _ b e1
    refine .quiet _ h fun μ w act hi hp => ⟨_, ?_, VA.int' _ _ _ _⟩
    have h1 := (hp.get (by simp [ho, Op.operands]) hx e1).int_inv
    simp [execOp, ho, h1, convert, run_underlying hs, run_underlying ht, Conv.intToInt]
  · exact h.elim

theorem s_mvS {s t : TypeId} {x : Operand} {rx : Rv} (ho : o.op = .convert s t x) (hs : P.underlying s = some .string) (ht : P.underlying t = some .string) (hx : rv x = some rx) (h : opV P d (.mvS rx) fr ba lo K) : Sound1 P o fr ba lo K := by
  simp only [opV, evK_eq] at h
  split at h
  · rename_i b e1
    refine .quiet _ h fun μ w act hi hp => ⟨_, ?_, VA.str' _ _ _⟩
    have h1 := (hp.get (by simp [ho, Op.operands]) hx e1).str_inv
    simp [execOp, ho, h1, convert, run_underlying hs, run_underlying ht]
  · exact h.elim

/-! #### values that nobody writes -/

/-- A pointer to cells. -/
theorem VP.ptr_inv {M : Nat → Prop} {w : World} {v : Value} {cs : List PV} (h : VP M w v (.ptr cs)) : ∃ (b off : Nat) (c : Nat → Value), v = .pointer (some ⟨b, off, none⟩) ∧ ¬ M b ∧ b < w.heap.size ∧
    (∀ (j : Nat) (e : PV), cs[j]? = some e → (c j).oneCell' = true ∧ w.cell? ⟨b, off + j, none⟩ = some (c j)) ∧ ∀ (j : Nat) (e : PV), cs[j]? = some e → VP M w (c j) e := by
  cases h with
  | ptr b off cs c h1 h2 h3 h4 => exact ⟨b, off, c, rfl, h1, h2, h3, h4⟩

theorem VP.ptr_drop {M : Nat → Prop} {w : World} {b off : Nat} {cs : List PV} (h : VP M w (.pointer (some ⟨b, off, none⟩)) (.ptr cs)) (n : Nat) : VP M w (.pointer (some ⟨b, off + n, none⟩)) (.ptr (cs.drop n)) := by
  obtain ⟨b', off', c, h1, h2, h3, h4, h5⟩ := h.ptr_inv
  cases h1
  refine .ptr b (off + n) _ (fun j => c (n + j)) h2 h3 (fun j e he => ?_) fun j e he => ?_
  · rw [List.getElem?_drop] at he
    have := h4 _ e he
    rw [Nat.add_assoc]; exact this
  · rw [List.getElem?_drop] at he
    exact h5 _ e he

/-- Reading a row of cells, as one value or as a struct's. -/
theorem run_loadVar_some {w : World} {t : TypeId} {n b off : Nat} {cs : List Value} (h1 : isAggT P t = some true) (h2 : (P.info? t).map (·.size) = some n) (hl : cs.length = n) (hc : ∀ (j : Nat) (v : Value), cs[j]? = some v → w.cell? ⟨b, off + j, none⟩ = some v) :
    (loadVar t ⟨b, off, none⟩).run P w = .ok (.agg cs.toArray) w := by
  obtain ⟨i, hi, hn⟩ := Option.map_eq_some_iff.1 h2
  have hrun := run_loadCells_list (P := P) w ⟨b, off, none⟩ cs (fun j v hj => by rw [add_none]; exact hc j v hj)
  rw [hl] at hrun
  unfold isAggT at h1
  split at h1
  · rename_i hu
    simp [loadVar, isAgg, run_underlying hu, sizeOf, typeInfo, hi, hn, hrun]
  · rename_i hu
    simp [loadVar, isAgg, run_underlying hu, sizeOf, typeInfo, hi, hn, hrun]
  · cases h1
  · cases h1

theorem run_loadVar_none {w : World} {t : TypeId} {b off : Nat} {v : Value} (h1 : isAggT P t = some false) (hc : w.cell? ⟨b, off, none⟩ = some v) : (loadVar t ⟨b, off, none⟩).run P w = .ok v w := by
  unfold isAggT at h1
  split at h1
  · cases h1
  · cases h1
  · rename_i td hu h2 h3
    simp only [loadVar, isAgg, run_underlying h3, Sem.run_bind, Result.andThen_ok]
    simp [hc]
  · cases h1

end ops
end Go.Proofs.Ytkjidklifmcpnaa.AD
