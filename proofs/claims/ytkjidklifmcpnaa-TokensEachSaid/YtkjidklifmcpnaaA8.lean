/- A plainer machine, eight: operations that read objects and take values apart. -/
import Derived.Test.YtkjidklifmcpnaaA7
namespace Go.Proofs.Ytkjidklifmcpnaa.AD
set_option linter.unusedVariables false

section ops
variable {P : Program} {o : Oper} {fr : FR} {ba lo : List Ob} {K : AV → List Ob → List Ob → Prop} {d : Bool}

theorem readT_out {t : TypeId} {n : Option Nat} (h : readT P t = some n) : (∃ k, n = some k ∧ isAggT P t = some true ∧ (P.info? t).map (·.size) = some k) ∨ (n = none ∧ isAggT P t = some false ∧ (P.info? t).map (·.size) = some 1) := by
  unfold readT at h
  split at h
  · rename_i i h1 h2
    cases h
    exact .inl ⟨_, rfl, h1, by rw [h2]; rfl⟩
  · rename_i i h1 h2
    split at h
    · rename_i h3
      cases h
      exact .inr ⟨rfl, h1, by rw [h2]; simp [h3]⟩
    · cases h
  · cases h

/-- Cells of values that nobody writes, in a row from a place on. -/
def PCells (M : Nat → Prop) (w : World) (b off : Nat) (cs : List PV) : Prop :=
  ∃ c : Nat → Value, ∀ (j : Nat) (e : PV), cs[j]? = some e → (c j).oneCell' = true ∧ w.cell? ⟨b, off + j, none⟩ = some (c j) ∧ VP M w (c j) e
def ACells (Γ : Ctx) (w : World) (b off : Nat) (cs : List AV) : Prop :=
  ∃ c : Nat → Value, ∀ (j : Nat) (e : AV), cs[j]? = some e → (c j).oneCell' = true ∧ w.cell? ⟨b, off + j, none⟩ = some (c j) ∧ VA Γ w (c j) e

theorem PCells.drop {M : Nat → Prop} {w : World} {b off : Nat} {cs : List PV} (h : PCells M w b off cs) (n : Nat) : PCells M w b (off + n) (cs.drop n) := by
  obtain ⟨c, h⟩ := h
  refine ⟨fun j => c (n + j), fun j e he => ?_⟩
  rw [List.getElem?_drop] at he
  have := h _ e he
  rw [Nat.add_assoc]; exact this
theorem ACells.drop {Γ : Ctx} {w : World} {b off : Nat} {cs : List AV} (h : ACells Γ w b off cs) (n : Nat) : ACells Γ w b (off + n) (cs.drop n) := by
  obtain ⟨c, h⟩ := h
  refine ⟨fun j => c (n + j), fun j e he => ?_⟩
  rw [List.getElem?_drop] at he
  have := h _ e he
  rw [Nat.add_assoc]; exact this

theorem list_agg {c : Nat → Value} {n : Nat} : ((List.range n).map c).length = n := by simp
theorem list_agg_get {c : Nat → Value} {n j : Nat} {v : Value} (h : ((List.range n).map c)[j]? = some v) : j < n ∧ v = c j := by
  have hj := get_lt h
  rw [list_agg] at hj
  rw [List.getElem?_map, List.getElem?_range hj] at h
  exact ⟨hj, (Option.some.inj h).symm⟩

theorem readP_out {t : TypeId} {n : Option Nat} (hr : readT P t = some n) {cs : List PV} {k : AV → Prop} (h : readPK n cs k) : ∃ e, k (.p e) ∧ ∀ (M : Nat → Prop) (w : World) (b off : Nat), PCells M w b off cs → ∃ v, (loadVar t ⟨b, off, none⟩).run P w = .ok v w ∧ VP M w v e := by
  rcases readT_out hr with ⟨n, rfl, h1, h2⟩ | ⟨rfl, h1, h2⟩
  · obtain ⟨hl, hk⟩ := takeK_out _ _ _ h
    refine ⟨_, hk, fun M w b off ⟨c, hc⟩ => ⟨_, run_loadVar_some (cs := (List.range n).map c) h1 h2 list_agg (fun j v hv => ?_), ?_⟩⟩
    · obtain ⟨hj, rfl⟩ := list_agg_get hv
      exact (hc j cs[j] (List.getElem?_eq_getElem (by omega))).2.1
    · refine .agg _ _ (by simp; omega) (fun j x e hx he => ?_) fun j x hx => ?_
      · obtain ⟨hj, rfl⟩ := list_agg_get (by simpa using hx)
        rw [List.getElem?_take, if_pos hj] at he
        exact (hc j e he).2.2
      · obtain ⟨hj, rfl⟩ := list_agg_get (by simpa using hx)
        exact (hc j cs[j] (List.getElem?_eq_getElem (by omega))).1
  · obtain ⟨x, r, rfl, hk⟩ := headK_out h
    refine ⟨_, hk, fun M w b off ⟨c, hc⟩ => ?_⟩
    have := hc 0 x rfl
    exact ⟨_, run_loadVar_none h1 this.2.1, this.2.2⟩

theorem readA_out {t : TypeId} {n : Option Nat} (hr : readT P t = some n) {cs : List AV} {k : AV → Prop} (h : readAK n cs k) : ∃ a, k a ∧ ∀ (Γ : Ctx) (w : World) (b off : Nat), ACells Γ w b off cs → ∃ v, (loadVar t ⟨b, off, none⟩).run P w = .ok v w ∧ VA Γ w v a := by
  rcases readT_out hr with ⟨n, rfl, h1, h2⟩ | ⟨rfl, h1, h2⟩
  · obtain ⟨hl, h⟩ := takeK_out _ _ _ h
    obtain ⟨a, ha, hk⟩ := mkAggK_out h
    refine ⟨a, hk, fun Γ w b off ⟨c, hc⟩ => ⟨_, run_loadVar_some (cs := (List.range n).map c) h1 h2 list_agg (fun j v hv => ?_), ?_⟩⟩
    · obtain ⟨hj, rfl⟩ := list_agg_get hv
      exact (hc j cs[j] (List.getElem?_eq_getElem (by omega))).2.1
    · refine VA.of_agg ⟨by simp; omega, fun j x e hx he => ?_⟩ (fun j x hx => ?_) ha
      · obtain ⟨hj, rfl⟩ := list_agg_get (by simpa using hx)
        rw [List.getElem?_take, if_pos hj] at he
        exact (hc j e he).2.2
      · obtain ⟨hj, rfl⟩ := list_agg_get (by simpa using hx)
        exact (hc j cs[j] (List.getElem?_eq_getElem (by omega))).1
  · obtain ⟨x, r, rfl, hk⟩ := headK_out h
    refine ⟨_, hk, fun Γ w b off ⟨c, hc⟩ => ?_⟩
    have := hc 0 x rfl
    exact ⟨_, run_loadVar_none h1 this.2.1, this.2.2⟩

theorem VP.pcells {M : Nat → Prop} {w : World} {v : Value} {cs : List PV} (h : VP M w v (.ptr cs)) : ∃ (b off : Nat), v = .pointer (some ⟨b, off, none⟩) ∧ PCells M w b off cs ∧ ¬ M b ∧ b < w.heap.size := by
  obtain ⟨b, off, c, h1, h2, h3, h4, h5⟩ := h.ptr_inv
  exact ⟨b, off, h1, ⟨c, fun j e he => ⟨(h4 j e he).1, (h4 j e he).2, h5 j e he⟩⟩, h2, h3⟩

theorem VP.of_pcells {M : Nat → Prop} {w : World} {b off : Nat} {cs : List PV} (h : PCells M w b off cs) (h1 : ¬ M b) (h2 : b < w.heap.size) : VP M w (.pointer (some ⟨b, off, none⟩)) (.ptr cs) := by
  obtain ⟨c, h⟩ := h
  exact .ptr b off cs c h1 h2 (fun j e he => ⟨(h j e he).1, (h j e he).2.1⟩) fun j e he => (h j e he).2.2

theorem CellsP.cells {M : Nat → Prop} {w : World} {c : Value} {e : PV} {cs : List PV} (h : CellsP e cs) (hv : VP M w c e) : c.cells.size = cs.length ∧ ∀ (j : Nat) (e' : PV), cs[j]? = some e' → ∃ x, c.cells[j]? = some x ∧ VP M w x e' := by
  cases h with
  | agg cs =>
    cases hv with
    | agg xs cs h1 h2 h3 =>
      refine ⟨h1, fun j e' he => ?_⟩
      have hj : j < xs.size := by rw [h1]; exact get_lt he
      exact ⟨xs[j], Array.getElem?_eq_getElem hj, h2 j _ _ (Array.getElem?_eq_getElem hj) he⟩
  | one e hs =>
    rw [cells_of_oneCell (hv.oneCell hs)]
    refine ⟨rfl, fun j e' he => ?_⟩
    cases j with
    | zero => simp at he; subst he; exact ⟨c, rfl, hv⟩
    | succ j => simp at he

/-- An element's cells, in its row. -/
theorem RowOf.pcells {M : Nat → Prop} {w : World} {sz b off : Nat} {es : List PV} (h : RowOf M w sz (cellsAt w (some ⟨b, off, none⟩)) es) {j : Nat} {e : PV} (hj : es[j]? = some e) {cs : List PV} (hc : CellsP e cs) : PCells M w b (off + j * sz) cs ∧ cs.length = sz := by
  obtain ⟨c, h1, h2, h3⟩ := h.get hj
  obtain ⟨h4, h5⟩ := hc.cells h3
  refine ⟨⟨fun i => c.cells.getD i undef, fun i e' he => ?_⟩, by rw [← h4, h1]⟩
  obtain ⟨x, hx, hv⟩ := h5 i e' he
  have h6 := h2 i x hx
  simp only [cellsAt, add_none] at h6
  have e1 : c.cells.getD i undef = x := by simp [hx]
  simp only [e1]
  exact ⟨h6.1, by rw [Nat.add_assoc]; exact h6.2, hv⟩

theorem ObOk.acells {Γ : Ctx} {w : World} {m : MI} {cs : List AV} (h : ObOk Γ w m (.cells cs)) : ∃ b xs t, m = .cells b ∧ w.heap[b]? = some (.cells xs t (0, 0)) ∧ xs.size = cs.length ∧ (∀ (j : Nat) (x : Value) (c : AV), xs[j]? = some x → cs[j]? = some c → VA Γ w x c ∧ x.oneCell' = true) ∧ ACells Γ w b 0 cs := by
  cases h with
  | cells b xs t cs h1 h2 h3 =>
    refine ⟨b, xs, t, rfl, h1, h2, h3, fun j => xs.getD j undef, fun j e he => ?_⟩
    have hj : j < xs.size := by rw [h2]; exact get_lt he
    have e1 : xs.getD j undef = xs[j] := by simp [hj]
    simp only [e1]
    have := h3 j xs[j] e (Array.getElem?_eq_getElem hj) he
    exact ⟨this.2, by rw [cell_of_row w b _ xs t (0, 0) h1, Nat.zero_add]; exact Array.getElem?_eq_getElem hj, this.1⟩

theorem ObOk.row {Γ : Ctx} {w : World} {m : MI} {g sz : Nat} {es : List PV} (h : ObOk Γ w m (.buf g sz es)) : (∃ n, m = .buf none g n ∧ es = []) ∨ ∃ b xs t, m = .buf (some b) g xs.size ∧ w.heap[b]? = some (.cells xs t (0, 0)) ∧ es.length * sz ≤ xs.size ∧ RowOf Γ.M w sz (fun k => xs[k]?) es := by
  cases h with
  | buf0 g sz n => exact .inl ⟨n, rfl, rfl⟩
  | buf b g n sz xs t es c h1 h2 h3 h4 =>
    subst h2
    exact .inr ⟨b, xs, t, rfl, h1, h3, c, fun j e he => (h4 j e he).1, fun j e he => (h4 j e he).2.1, fun j e he => (h4 j e he).2.2⟩

theorem ObOk.of_row {Γ : Ctx} {w : World} {b g sz : Nat} {xs : Array Value} {t : TypeId} {es : List PV} (h1 : w.heap[b]? = some (.cells xs t (0, 0))) (h3 : es.length * sz ≤ xs.size) (h : RowOf Γ.M w sz (fun k => xs[k]?) es) : ObOk Γ w (.buf (some b) g xs.size) (.buf g sz es) := by
  obtain ⟨c, a1, a2, a3⟩ := h
  exact .buf b g _ sz xs t es c h1 rfl h3 fun j e he => ⟨a1 j e he, a2 j e he, a3 j e he⟩

theorem row_at {M : Nat → Prop} {w : World} {sz b : Nat} {xs : Array Value} {t : TypeId} {es : List PV} (h1 : w.heap[b]? = some (.cells xs t (0, 0))) (h : RowOf M w sz (fun k => xs[k]?) es) : RowOf M w sz (cellsAt w (some ⟨b, 0, none⟩)) es :=
  h.congr fun k _ => by simp only [cellsAt, add_none, Nat.zero_add]; exact cell_of_row w b k xs t (0, 0) h1

theorem ref_inv {Γ : Ctx} {w : World} {v : Value} {r : Rf} {off b : Nat} (h : VA Γ w v (.ref r off)) (hm : Γ.at r = some (.cells b)) : v = .pointer (some ⟨b, off, none⟩) := by
  cases h with
  | ref r off b' h => rw [hm] at h; cases h; rfl

theorem elt_inv {Γ : Ctx} {w : World} {v : Value} {r : Rf} {g sz idx off b n : Nat} (h : VA Γ w v (.elt r g sz idx off)) (hm : Γ.at r = some (.buf (some b) g n)) : v = .pointer (some ⟨b, idx * sz + off, none⟩) := by
  cases h with
  | elt r g sz n b' idx off h => rw [hm] at h; cases h; rfl
  | eltOld v r g sz idx off b' g' n' h hg _ => rw [hm] at h; cases h; omega
  | eltGone v r g sz idx off h _ => rw [hm] at h; cases h

theorem view_inv {Γ : Ctx} {w : World} {v : Value} {r : Rf} {g sz len n : Nat} {b : Option Nat} (h : VA Γ w v (.view r g sz len)) (hm : Γ.at r = some (.buf b g n)) :
    (b = none ∧ v = .slice none 0 0 ∧ len = 0) ∨ ∃ b' cap, b = some b' ∧ v = .slice (some ⟨b', 0, none⟩) len cap ∧ len ≤ cap ∧ cap * sz = n := by
  cases h with
  | view0 r g sz n' h => rw [hm] at h; cases h; exact .inl ⟨rfl, rfl, rfl⟩
  | view r g sz n' b' len cap h hl hc => rw [hm] at h; cases h; exact .inr ⟨b', cap, rfl, rfl, hl, hc⟩
  | viewOld v r g sz len b' g' n' h hg _ => rw [hm] at h; cases h; omega
  | viewGone v r g sz len h _ => rw [hm] at h; cases h

theorem run_load {t : TypeId} {x : Operand} {a : Act} {w : World} {ad : Addr} {v : Value} (ho : o.op = .load t x) (hx : a.eval x = .pointer (some ad)) (h : (loadVar t ad).run P w = .ok v w) : (execOp a.eval o).run P w = .ok (.value v) w := by
  simp [execOp, ho, hx, Instr.loadAt, Instr.sureAddr, h]

theorem s_load {t : TypeId} {n : Option Nat} {x : Operand} {rx : Rv} (ho : o.op = .load t x) (hr : readT P t = some n) (hx : rv x = some rx) (h : opV P d (.load n rx) fr ba lo K) : Sound1 P o fr ba lo K := by
  have hm : x ∈ o.op.operands.toList := by simp [ho, Op.operands]
  simp only [opV, evK_eq] at h
  split at h
  · rename_i cs e1
    obtain ⟨e, hk, hl⟩ := readP_out hr h
    refine .quiet _ hk fun μ w a hi hp => ?_
    obtain ⟨b, off, h1, h2, h3, h4⟩ := (hp.get hm hx e1).pv.pcells
    obtain ⟨v, h5, h6⟩ := hl _ w b off h2
    exact ⟨v, run_load ho h1 h5, .p _ _ h6⟩
  · rename_i m off e1
    obtain ⟨ob, hob, h⟩ := atK_out _ _ _ h
    split at h
    · rename_i cs
      obtain ⟨hl, h⟩ := dropK_out _ _ _ h
      obtain ⟨v, hk, hl⟩ := readA_out hr h
      refine .quiet _ hk fun μ w a hi hp => ?_
      obtain ⟨mi, h1, h2⟩ := hi.at_l hob
      obtain ⟨b, xs, t', rfl, h3, h4, h5, h6⟩ := h2.acells
      have h7 := ref_inv (hp.get hm hx e1) h1
      obtain ⟨c, h8, h9⟩ := hl _ w b (0 + off) (h6.drop off)
      rw [Nat.zero_add] at h8
      exact ⟨c, run_load ho h7 h8, h9⟩
    · exact h.elim
  · rename_i id off e1
    obtain ⟨ob, hob, h⟩ := atK_out _ _ _ h
    cases ob <;> first | exact (show False from h).elim | skip
    rename_i cs
    obtain ⟨hl, h⟩ := dropK_out _ _ _ h
    obtain ⟨v, hk, hl⟩ := readA_out hr h
    refine .quiet _ hk fun μ w a hi hp => ?_
    obtain ⟨mi, h1, h2⟩ := hi.at_b hob
    obtain ⟨b, xs, t', rfl, h3, h4, h5, h6⟩ := h2.of_take.acells
    have h7 := ref_inv (hp.get hm hx e1) h1
    obtain ⟨c, h8, h9⟩ := hl _ w b (0 + off) (h6.drop off)
    rw [Nat.zero_add] at h8
    exact ⟨c, run_load ho h7 h8, h9⟩
  · rename_i m g sz idx off e1
    obtain ⟨ob, hob, h⟩ := atK_out _ _ _ h
    split at h
    · rename_i g' sz' es
      obtain ⟨⟨rfl, rfl⟩, e, he, h⟩ := h
      obtain ⟨cs, hcs, h⟩ := cellsPK_out h
      obtain ⟨hl, h⟩ := dropK_out _ _ _ h
      obtain ⟨v, hk, hl⟩ := readP_out hr h
      refine .quiet _ hk fun μ w a hi hp => ?_
      obtain ⟨mi, h1, h2⟩ := hi.at_l hob
      rcases h2.row with ⟨n', rfl, rfl⟩ | ⟨b, xs, t', rfl, h3, h4, h5⟩
      · simp at he
      · have h7 := elt_inv (hp.get hm hx e1) h1
        obtain ⟨h8, h9⟩ := (row_at h3 h5).pcells he hcs
        obtain ⟨c, h10, h11⟩ := hl _ w b (0 + idx * sz + off) (h8.drop off)
        rw [Nat.zero_add] at h10
        exact ⟨c, run_load ho h7 h10, .p _ _ h11⟩
    · exact h.elim
  · rename_i id g sz idx off e1
    obtain ⟨ob, hob, h⟩ := atK_out _ _ _ h
    cases ob <;> first | exact (show False from h).elim | skip
    rename_i g' sz' es
    obtain ⟨⟨rfl, rfl⟩, e, he, h⟩ := h
    obtain ⟨cs, hcs, h⟩ := cellsPK_out h
    obtain ⟨hl, h⟩ := dropK_out _ _ _ h
    obtain ⟨v, hk, hl⟩ := readP_out hr h
    refine .quiet _ hk fun μ w a hi hp => ?_
    obtain ⟨mi, h1, h2⟩ := hi.at_b hob
    rcases h2.of_take.row with ⟨n', rfl, rfl⟩ | ⟨b, xs, t', rfl, h3, h4, h5⟩
    · simp at he
    · have h7 := elt_inv (hp.get hm hx e1) h1
      obtain ⟨h8, h9⟩ := (row_at h3 h5).pcells he hcs
      obtain ⟨c, h10, h11⟩ := hl _ w b (0 + idx * sz + off) (h8.drop off)
      rw [Nat.zero_add] at h10
      exact ⟨c, run_load ho h7 h10, .p _ _ h11⟩
  · exact h.elim

theorem ref_ptr {Γ : Ctx} {w : World} {v : Value} {r : Rf} {off : Nat} (h : VA Γ w v (.ref r off)) : ∃ b, Γ.at r = some (.cells b) ∧ v = .pointer (some ⟨b, off, none⟩) := by
  cases h with
  | ref r off b h => exact ⟨b, h, rfl⟩

theorem s_nilck {x : Operand} {rx : Rv} (ho : o.op = .nilCheck x) (hx : rv x = some rx) (h : opV P d (.nilck rx) fr ba lo K) : Sound1 P o fr ba lo K := by
  have hm : x ∈ o.op.operands.toList := by simp [ho, Op.operands]
  simp only [opV, evK_eq] at h
  have run : ∀ (a : Act) (w : World) (ad : Addr), a.eval x = .pointer (some ad) → (execOp a.eval o).run P w = .ok (.value (.pointer (some ad))) w := fun a w ad h => by simp [execOp, ho, h]
  split at h
  · rename_i cs e1
    refine .quiet _ h fun μ w a hi hp => ?_
    have h0 := hp.get hm hx e1
    obtain ⟨b, off, h1, h2, h3, h4⟩ := h0.pv.pcells
    exact ⟨_, run a w _ h1, h1 ▸ h0⟩
  · rename_i r off e1
    refine .quiet _ h fun μ w a hi hp => ?_
    have h0 := hp.get hm hx e1
    obtain ⟨b, h1, h2⟩ := ref_ptr h0
    exact ⟨_, run a w _ h2, h2 ▸ h0⟩
  · rename_i f e1
    refine .quiet _ h fun μ w a hi hp => ?_
    have h0 := hp.get hm hx e1
    generalize hv : a.eval x = v at h0
    cases h0 with
    | p v e h1 =>
      cases h1
      exact ⟨_, by cases f <;> simp [execOp, ho, hv], .p _ _ (.fn f)⟩
  · rename_i f as bs e1
    refine .quiet _ h fun μ w a hi hp => ?_
    have h0 := hp.get hm hx e1
    generalize hv : a.eval x = v at h0
    cases h0 with
    | clos _ xs ys _ _ h1 h2 h3 h4 => exact ⟨_, by simp [execOp, ho, hv], .clos _ xs ys as bs h1 h2 h3 h4⟩
  · exact h.elim

theorem s_fieldA {s : TypeId} {x : Operand} {f : Nat} {rx : Rv} {fields : Array Field} {fd : Field} {n : Nat} (ho : o.op = .fieldAddr s x f) (hs : P.underlying s = some (.struct fields)) (hf : fields[f]? = some fd) (hn : sizeT P fd.type = some n) (h0 : n ≠ 0) (hx : rv x = some rx) (h : opV P d (.fieldA fd.offset rx) fr ba lo K) : Sound1 P o fr ba lo K := by
  have hm : x ∈ o.op.operands.toList := by simp [ho, Op.operands]
  obtain ⟨i, hi, hsz⟩ := Option.map_eq_some_iff.1 hn
  simp only [opV, evK_eq] at h
  have run : ∀ (a : Act) (w : World) (b off : Nat), a.eval x = .pointer (some ⟨b, off, none⟩) → (execOp a.eval o).run P w = .ok (.value (.pointer (some ⟨b, off + fd.offset, none⟩))) w := fun a w b off h => by
    have : ¬ i.size = 0 := by rw [hsz]; exact h0
    simp [execOp, ho, h, Instr.fieldAt, run_underlying hs, hf, Instr.sureAddr, fieldPlace, sizeOf, typeInfo, hi, this, add_none]
  split at h
  · rename_i cs e1
    obtain ⟨hl, h⟩ := dropK_out _ _ _ h
    refine .quiet _ h fun μ w a hi hp => ?_
    obtain ⟨b, off, h1, h2, h3, h4⟩ := (hp.get hm hx e1).pv.pcells
    exact ⟨_, run a w b off h1, .p _ _ (VP.of_pcells (h2.drop _) h3 h4)⟩
  · rename_i r off e1
    refine .quiet _ h fun μ w a hi hp => ?_
    obtain ⟨b, h1, h2⟩ := ref_ptr (hp.get hm hx e1)
    exact ⟨_, run a w b off h2, .ref _ _ _ h1⟩
  · rename_i r g sz i' off e1
    obtain ⟨h1, h⟩ := h
    refine .quiet _ h fun μ w a hi hp => ?_
    have hv := hp.get hm hx e1
    have key : ∃ b n, Ctx.at ⟨blocks μ, ba.length, μ⟩ r = some (.buf (some b) g n) := by
      cases r with
      | l m =>
        obtain ⟨o', h2, h3⟩ := atK_out _ _ _ h1
        split at h3
        · rename_i g' sz' es
          obtain ⟨rfl, h4⟩ := h3
          obtain ⟨mi, h5, h6⟩ := hi.at_l h2
          rcases h6.row with ⟨n', rfl, rfl⟩ | ⟨b, xs, t', rfl, _, _, _⟩
          · simp at h4
          · exact ⟨b, _, h5⟩
        · exact h3.elim
      | b id =>
        obtain ⟨ob, h2, h3⟩ := atK_out _ _ _ h1
        cases ob <;> first | exact (show False from h3).elim | skip
        rename_i g' sz' es
        obtain ⟨rfl, h4⟩ := h3
        obtain ⟨mi, h5, h6⟩ := hi.at_b h2
        rcases h6.of_take.row with ⟨n', rfl, rfl⟩ | ⟨b, xs, t', rfl, _, _, _⟩
        · simp at h4
        · exact ⟨b, _, h5⟩
    obtain ⟨b, n', h2⟩ := key
    have h3 := elt_inv hv h2
    refine ⟨_, run a w _ _ h3, ?_⟩
    rw [Nat.add_assoc]
    exact .elt r g sz n' b i' (off + fd.offset) h2
  · exact h.elim

theorem asInt_run {w : World} (k : IntKind) (n : Int) : (asIntOf (.int k n)).run P w = .ok (k, n) w := rfl

theorem s_elemA {t e : TypeId} {x i : Operand} {rx ri : Rv} {n : Nat} (ho : o.op = .indexAddr t x i) (ht : P.underlying t = some (.slice e)) (hn : sizeT P e = some n) (hx : rv x = some rx) (hi : rv i = some ri) (h : opV P d (.elemA n rx ri) fr ba lo K) : Sound1 P o fr ba lo K := by
  have hm : x ∈ o.op.operands.toList := by simp [ho, Op.operands]
  have hmi : i ∈ o.op.operands.toList := by simp [ho, Op.operands]
  obtain ⟨ti, hti, hsz⟩ := Option.map_eq_some_iff.1 hn
  simp only [opV, evK_eq] at h
  have run : ∀ (a : Act) (w : World) (b off len cap : Nat) (k : IntKind) (j : Int), a.eval x = .slice (some ⟨b, off, none⟩) len cap → a.eval i = .int k j → 0 ≤ j → j < len →
      (execOp a.eval o).run P w = .ok (.value (.pointer (some ⟨b, off + j.toNat * n, none⟩))) w := fun a w b off len cap k j h1 h2 h3 h4 => by
    simp [execOp, ho, h1, h2, Instr.indexAt, asIntOf, run_underlying ht, h3, h4, sizeOf, typeInfo, hti, hsz, add_none]
  have rowcase : ∀ {sz : Nat} {es : List PV} {k : IntKind} {j : Int} {el : PV} {cs : List PV} {M : Nat → Prop} {w : World} {a : Act} {A : Option Addr} {len cap : Nat}, a.eval x = .slice A len cap → a.eval i = .int k j → 0 ≤ j → j < len → es[j.toNat]? = some el → CellsP el cs → sz = n → RowOf M w sz (cellsAt w A) es →
      (∀ ad, A = some ad → ad.spot = none ∧ ¬ M ad.block ∧ ad.block < w.heap.size) → (A = none → len = 0) → ∃ c, (execOp a.eval o).run P w = .ok (.value c) w ∧ VP M w c (.ptr cs) := by
    intro sz es k j el cs M w a A len cap h1 h2 h3 h4 h5 h6 h7 h8 h9 h10
    cases A with
    | none => have := h10 rfl; omega
    | some ad =>
      obtain ⟨b, off, sp⟩ := ad
      obtain ⟨rfl, h11, h12⟩ := h9 _ rfl
      obtain ⟨h13, h14⟩ := h8.pcells h5 h6
      subst h7
      exact ⟨_, run a w b off len cap k j h1 h2 h3 h4, VP.of_pcells h13 h11 h12⟩
  split at h
  · rename_i sz' es k j e1 e2
    obtain ⟨rfl, el, ⟨h3, h5⟩, h⟩ := h
    obtain ⟨cs, h6, hk⟩ := cellsPK_out h
    refine .quiet _ hk fun μ w a hinv hp => ?_
    obtain ⟨A, c, h1, hlc, h8, h10, h9⟩ := (hp.get hm hx e1).pv.list_row
    have h4 : j < (es.length : Int) := by have := get_lt h5; omega
    obtain ⟨c, h15, h16⟩ := rowcase h1 (hp.get hmi hi e2).int_inv h3 h4 h5 h6 rfl h8 (fun ad e => h9 ad e (by intro e2; rw [e2] at h5; simp at h5)) (fun e => by have := h10 e; omega)
    exact ⟨c, h15, .p _ _ h16⟩
  · rename_i sz' es sp k j e1 e2
    obtain ⟨rfl, el, ⟨h3, h5⟩, h⟩ := h
    obtain ⟨cs, h6, hk⟩ := cellsPK_out h
    refine .quiet _ hk fun μ w a hinv hp => ?_
    obtain ⟨b, off, c, h1, hlc, h8, h9, h10⟩ := (hp.get hm hx e1).pv.lent_row
    have h4 : j < (es.length : Int) := by have := get_lt h5; omega
    have h11 : (es ++ sp)[j.toNat]? = some el := by rw [List.getElem?_append_left (get_lt h5)]; exact h5
    obtain ⟨c, h15, h16⟩ := rowcase h1 (hp.get hmi hi e2).int_inv h3 h4 h11 h6 rfl h8 (fun ad e => by cases e; exact ⟨rfl, h9, h10⟩) (fun e => by cases e)
    exact ⟨c, h15, .p _ _ h16⟩
  · rename_i r g sz' len k j e1 e2
    obtain ⟨⟨rfl, h3, h4⟩, h1, h⟩ := h
    refine .quiet _ h fun μ w a hinv hp => ?_
    have hv := hp.get hm hx e1
    have key : ∃ b n', Ctx.at ⟨blocks μ, ba.length, μ⟩ r = some (.buf b g n') := by
      cases r with
      | l m =>
        obtain ⟨o', h5, h6⟩ := atK_out _ _ _ h1
        split at h6
        · rename_i g' sz' es
          subst h6
          obtain ⟨mi, h7, h8⟩ := hinv.at_l h5
          rcases h8.row with ⟨n', rfl, rfl⟩ | ⟨b, xs, t', rfl, _, _, _⟩
          · exact ⟨_, _, h7⟩
          · exact ⟨_, _, h7⟩
        · exact h6.elim
      | b id =>
        obtain ⟨ob, h5, h6⟩ := atK_out _ _ _ h1
        cases ob <;> first | exact (show False from h6).elim | skip
        rename_i g' sz' es
        obtain rfl := h6
        obtain ⟨mi, h7, h8⟩ := hinv.at_b h5
        rcases h8.of_take.row with ⟨n', rfl, rfl⟩ | ⟨b, xs, t', rfl, _, _, _⟩
        · exact ⟨_, _, h7⟩
        · exact ⟨_, _, h7⟩
    obtain ⟨b, n', h2⟩ := key
    rcases view_inv hv h2 with ⟨_, _, rfl⟩ | ⟨b', cap, rfl, h5, h6, h7⟩
    · omega
    · refine ⟨_, run a w b' 0 len cap k j h5 (hp.get hmi hi e2).int_inv h3 h4, ?_⟩
      rw [Nat.zero_add]
      exact .elt r g _ n' b' j.toNat 0 h2
  · exact h.elim

theorem s_arrA {t e : TypeId} {x i : Operand} {rx ri : Rv} {n len : Nat} (ho : o.op = .indexAddr t x i) (ht : P.underlying t = some (.array len e)) (hn : sizeT P e = some n) (hx : rv x = some rx) (hi : rv i = some ri) (h : opV P d (.arrA n len rx ri) fr ba lo K) : Sound1 P o fr ba lo K := by
  have hm : x ∈ o.op.operands.toList := by simp [ho, Op.operands]
  have hmi : i ∈ o.op.operands.toList := by simp [ho, Op.operands]
  obtain ⟨ti, hti, hsz⟩ := Option.map_eq_some_iff.1 hn
  simp only [opV, evK_eq] at h
  split at h
  · rename_i r off k j e1 e2
    obtain ⟨⟨h3, h4⟩, h⟩ := h
    refine .quiet _ h fun μ w a hinv hp => ?_
    obtain ⟨b, h1, h2⟩ := ref_ptr (hp.get hm hx e1)
    refine ⟨_, ?_, .ref r _ b h1⟩
    simp [execOp, ho, h2, (hp.get hmi hi e2).int_inv, Instr.indexAt, asIntOf, run_underlying ht, Instr.sureAddr, h3, h4, sizeOf, typeInfo, hti, hsz, add_none]
  · exact h.elim

end ops
end Go.Proofs.Ytkjidklifmcpnaa.AD
