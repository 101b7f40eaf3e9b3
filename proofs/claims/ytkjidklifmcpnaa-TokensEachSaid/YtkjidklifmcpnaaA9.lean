/- A plainer machine, nine: parts of values, lengths, cuts, answers of several values. -/
import Derived.Test.YtkjidklifmcpnaaA8
namespace Go.Proofs.Ytkjidklifmcpnaa.AD
set_option linter.unusedVariables false

section ops
variable {P : Program} {o : Oper} {fr : FR} {ba lo : List Ob} {K : AV → List Ob → List Ob → Prop} {d : Bool}

theorem run_part_some {w : World} {t : TypeId} {n off : Nat} {xs : Array Value} (h1 : isAggT P t = some true) (h2 : (P.info? t).map (·.size) = some n) : (part t xs off).run P w = .ok (.agg (xs.extract off (off + n))) w := by
  obtain ⟨i, hi, hn⟩ := Option.map_eq_some_iff.1 h2
  unfold isAggT at h1
  split at h1
  · rename_i hu
    simp [part, isAgg, run_underlying hu, sizeOf, typeInfo, hi, hn]
  · rename_i hu
    simp [part, isAgg, run_underlying hu, sizeOf, typeInfo, hi, hn]
  · cases h1
  · cases h1
theorem run_part_none {w : World} {t : TypeId} {off : Nat} {xs : Array Value} {v : Value} (h1 : isAggT P t = some false) (hv : xs[off]? = some v) : (part t xs off).run P w = .ok v w := by
  unfold isAggT at h1
  split at h1
  · cases h1
  · cases h1
  · rename_i td hu h2 h3
    simp only [part, isAgg, run_underlying h3, Sem.run_bind, Result.andThen_ok]
    simp [hv]
  · cases h1

theorem partP_out {t : TypeId} {n : Option Nat} (hr : readT P t = some n) {cs : List PV} {off : Nat} {k : AV → Prop} (h : readPK n (cs.drop off) k) : ∃ e, k (.p e) ∧ ∀ (M : Nat → Prop) (w : World) (v : Value), VP M w v (.agg cs) → ∃ xs c, v = .agg xs ∧ (part t xs off).run P w = .ok c w ∧ VP M w c e := by
  rcases readT_out hr with ⟨n, rfl, h1, h2⟩ | ⟨rfl, h1, h2⟩
  · obtain ⟨hl, hk⟩ := takeK_out _ _ _ h
    rw [List.length_drop] at hl
    refine ⟨_, hk, fun M w v hv => ?_⟩
    cases hv with
    | agg xs cs h3 h4 h5 =>
      refine ⟨xs, _, rfl, run_part_some h1 h2, .agg _ _ (by simp; omega) (fun j x e hx he => ?_) fun j x hx => ?_⟩
      · rw [Array.getElem?_extract] at hx
        split at hx
        · rw [List.getElem?_take] at he
          split at he
          · rw [List.getElem?_drop] at he
            exact h4 _ _ _ hx he
          · cases he
        · cases hx
      · rw [Array.getElem?_extract] at hx
        split at hx
        · exact h5 _ _ hx
        · cases hx
  · obtain ⟨x, r, he, hk⟩ := headK_out h
    refine ⟨_, hk, fun M w v hv => ?_⟩
    cases hv with
    | agg xs cs h3 h4 h5 =>
      have h6 : cs[off]? = some x := by
        have : (cs.drop off)[0]? = some x := by rw [he]; rfl
        rwa [List.getElem?_drop] at this
      have h7 : off < xs.size := by rw [h3]; exact get_lt h6
      exact ⟨xs, _, rfl, run_part_none h1 (Array.getElem?_eq_getElem h7), h4 _ _ _ (Array.getElem?_eq_getElem h7) h6⟩

theorem partA_out {t : TypeId} {n : Option Nat} (hr : readT P t = some n) {cs : List AV} {off : Nat} {k : AV → Prop} (h : readAK n (cs.drop off) k) : ∃ a, k a ∧ ∀ (Γ : Ctx) (w : World) (v : Value), VA Γ w v (.agg cs) → ∃ xs c, v = .agg xs ∧ (part t xs off).run P w = .ok c w ∧ VA Γ w c a := by
  rcases readT_out hr with ⟨n, rfl, h1, h2⟩ | ⟨rfl, h1, h2⟩
  · obtain ⟨hl, h⟩ := takeK_out _ _ _ h
    obtain ⟨a, ha, hk⟩ := mkAggK_out h
    rw [List.length_drop] at hl
    refine ⟨_, hk, fun Γ w v hv => ?_⟩
    cases hv with
    | agg xs cs h3 h4 h5 =>
      refine ⟨xs, _, rfl, run_part_some h1 h2, VA.of_agg ⟨by simp; omega, fun j x e hx he => ?_⟩ (fun j x hx => ?_) ha⟩
      · rw [Array.getElem?_extract] at hx
        split at hx
        · rw [List.getElem?_take] at he
          split at he
          · rw [List.getElem?_drop] at he
            exact h4 _ _ _ hx he
          · cases he
        · cases hx
      · rw [Array.getElem?_extract] at hx
        split at hx
        · exact h5 _ _ hx
        · cases hx
  · obtain ⟨x, r, he, hk⟩ := headK_out h
    refine ⟨_, hk, fun Γ w v hv => ?_⟩
    cases hv with
    | agg xs cs h3 h4 h5 =>
      have h6 : cs[off]? = some x := by
        have : (cs.drop off)[0]? = some x := by rw [he]; rfl
        rwa [List.getElem?_drop] at this
      have h7 : off < xs.size := by rw [h3]; exact get_lt h6
      exact ⟨xs, _, rfl, run_part_none h1 (Array.getElem?_eq_getElem h7), h4 _ _ _ (Array.getElem?_eq_getElem h7) h6⟩

theorem s_fld {t : TypeId} {x : Operand} {f : Nat} {rx : Rv} {fields : Array Field} {fd : Field} {n : Option Nat} (ho : o.op = .field t x f) (hs : P.underlying t = some (.struct fields)) (hf : fields[f]? = some fd) (hr : readT P fd.type = some n) (hx : rv x = some rx) (h : opV P d (.fld fd.offset n rx) fr ba lo K) : Sound1 P o fr ba lo K := by
  have hm : x ∈ o.op.operands.toList := by simp [ho, Op.operands]
  simp only [opV, evK_eq] at h
  have run : ∀ (a : Act) (w : World) (xs : Array Value) (c : Value), a.eval x = .agg xs → (part fd.type xs fd.offset).run P w = .ok c w → (execOp a.eval o).run P w = .ok (.value c) w := fun a w xs c h1 h2 => by
    simp [execOp, ho, h1, Instr.field, run_underlying hs, hf, asAgg, h2]
  split at h
  · rename_i cs e1
    obtain ⟨_, h⟩ := dropK_out _ _ _ h
    obtain ⟨e, hk, hl⟩ := partP_out hr h
    refine .quiet _ hk fun μ w a hi hp => ?_
    obtain ⟨xs, c, h1, h2, h3⟩ := hl _ w _ (hp.get hm hx e1).pv
    exact ⟨c, run a w xs c h1 h2, .p _ _ h3⟩
  · rename_i cs e1
    obtain ⟨_, h⟩ := dropK_out _ _ _ h
    obtain ⟨e, hk, hl⟩ := partA_out hr h
    refine .quiet _ hk fun μ w a hi hp => ?_
    obtain ⟨xs, c, h1, h2, h3⟩ := hl _ w _ (hp.get hm hx e1)
    exact ⟨c, run a w xs c h1 h2, h3⟩
  · exact h.elim

theorem s_idxA {t e : TypeId} {x i : Operand} {rx ri : Rv} {sz len : Nat} {n : Option Nat} (ho : o.op = .index t x i) (ht : P.underlying t = some (.array len e)) (hsz : sizeT P e = some sz) (hr : readT P e = some n) (hx : rv x = some rx) (hi : rv i = some ri) (h : opV P d (.idxA sz len n rx ri) fr ba lo K) : Sound1 P o fr ba lo K := by
  have hm : x ∈ o.op.operands.toList := by simp [ho, Op.operands]
  have hmi : i ∈ o.op.operands.toList := by simp [ho, Op.operands]
  obtain ⟨ti, hti, htz⟩ := Option.map_eq_some_iff.1 hsz
  simp only [opV, evK_eq] at h
  split at h
  · rename_i cs k j e1 e2
    obtain ⟨⟨h3, h4⟩, h⟩ := h
    have h' : readPK n (cs.drop (j.toNat * sz)) fun v => K v ba lo := by
      rcases readT_out hr with ⟨m, rfl, h1, h2⟩ | ⟨rfl, h1, h2⟩
      · obtain ⟨h5, h6⟩ := h
        exact takeK_in _ _ _ (by rw [List.length_drop]; omega) h6
      · obtain ⟨c, h5, h6⟩ := h
        have h7 := get_lt h5
        rw [List.drop_eq_getElem_cons h7]
        rw [List.getElem?_eq_getElem h7] at h5
        cases h5
        exact h6
    obtain ⟨el, hk, hl⟩ := partP_out hr h'
    refine .quiet _ hk fun μ w a hinv hp => ?_
    obtain ⟨xs, c, h5, h6, h7⟩ := hl _ w _ (hp.get hm hx e1).pv
    refine ⟨c, ?_, .p _ _ h7⟩
    simp [execOp, ho, h5, (hp.get hmi hi e2).int_inv, Instr.index, asIntOf, run_underlying ht, h3, h4, sizeOf, typeInfo, hti, htz, h6]
  · exact h.elim

theorem bytes_get {s : ByteArray} {i : Nat} {c : UInt8} (h : s.data.toList[i]? = some c) : s[i]? = some c := by
  have h1 := get_lt h
  have h2 : i < s.size := by rw [Array.length_toList] at h1; exact h1
  rw [getElem?_pos s i h2]
  rw [List.getElem?_eq_getElem h1] at h
  have h3 : s.data.toList[i] = c := Option.some.inj h
  rw [← h3, Array.getElem_toList]
  rfl

theorem s_idxS {t : TypeId} {x i : Operand} {rx ri : Rv} (ho : o.op = .index t x i) (ht : P.underlying t = some .string) (hx : rv x = some rx) (hi : rv i = some ri) (h : opV P d (.idxS rx ri) fr ba lo K) : Sound1 P o fr ba lo K := by
  have hm : x ∈ o.op.operands.toList := by simp [ho, Op.operands]
  have hmi : i ∈ o.op.operands.toList := by simp [ho, Op.operands]
  simp only [opV, evK_eq] at h
  split at h
  · rename_i s k j e1 e2
    obtain ⟨c, ⟨h3, h4⟩, h⟩ := h
    refine .quiet _ h fun μ w a hinv hp => ⟨_, ?_, VA.int' _ _ _ _⟩
    simp [execOp, ho, (hp.get hm hx e1).str_inv, (hp.get hmi hi e2).int_inv, Instr.index, asIntOf, run_underlying ht, h3, bytes_get h4]
  · exact h.elim

theorem sliceBound_run {w : World} {k : IntKind} {i : Int} {y : Nat} {code : BoundsCode} (h0 : 0 ≤ i) (h1 : i ≤ y) : (Instr.sliceBound (.int k i) y code).run P w = .ok i.toNat w := by
  simp [Instr.sliceBound, asIntOf, h0, h1]

theorem evOK_eq (x : Option Rv) (fr : FR) (k : Option AV → Prop) : evOK x fr k = k (x.map fun r => evF r fr) := by
  cases x
  · rfl
  · simp only [evOK, evK_eq, Option.map_some]

theorem bnd_none {l0 : Option Operand} {rl : Option Rv} (hl : rvO l0 = some rl) (e : (rl.map fun r => evF r fr) = none) : l0 = none := by
  cases l0 with
  | none => rfl
  | some x =>
    obtain ⟨r, h1, rfl⟩ := Option.map_eq_some_iff.1 hl
    cases e
theorem bnd_some {l0 : Option Operand} {rl : Option Rv} (hl : rvO l0 = some rl) {k : IntKind} {j : Int} (e : (rl.map fun r => evF r fr) = some (.p (.int k j))) : ∃ x r, l0 = some x ∧ rv x = some r ∧ evF r fr = .p (.int k j) := by
  cases l0 with
  | none => cases hl; cases e
  | some x =>
    obtain ⟨r, h1, rfl⟩ := Option.map_eq_some_iff.1 hl
    exact ⟨x, r, rfl, h1, Option.some.inj e⟩

theorem s_cutS {t : TypeId} {x : Operand} {l0 h0 : Option Operand} {rx : Rv} {rl rh : Option Rv} (ho : o.op = .slice t x l0 h0 none) (ht : P.underlying t = some .string) (hx : rv x = some rx) (hl : rvO l0 = some rl) (hh : rvO h0 = some rh) (h : opV P d (.cutS rx rl rh) fr ba lo K) : Sound1 P o fr ba lo K := by
  have hm : x ∈ o.op.operands.toList := by simp [ho, Op.operands]
  simp only [opV, evK_eq, evOK_eq] at h
  split at h
  · rename_i s e1
    split at h
    · rename_i e2 e3
      have h2 := bnd_none hl e2
      have h3 := bnd_none hh e3
      subst h2; subst h3
      refine .quiet _ h fun μ w a hinv hp => ⟨_, ?_, VA.str' _ _ _⟩
      simp [execOp, ho, (hp.get hm hx e1).str_inv, Instr.sliceAt, Instr.slice, run_underlying ht, Instr.sliceBounds]
    · rename_i k l e2 e3
      obtain ⟨xl, r, rfl, h4, h5⟩ := bnd_some hl e2
      have h3 := bnd_none hh e3
      subst h3
      obtain ⟨⟨h6, h7⟩, h⟩ := h
      refine .quiet _ h fun μ w a hinv hp => ⟨_, ?_, VA.str' _ _ _⟩
      have h8 := (hp.get (by simp [ho, Op.operands]) h4 h5).int_inv
      simp [execOp, ho, (hp.get hm hx e1).str_inv, h8, Instr.sliceAt, Instr.slice, run_underlying ht, Instr.sliceBounds, sliceBound_run h6 h7]
    · rename_i k l e2 e3
      obtain ⟨xl, r, rfl, h4, h5⟩ := bnd_some hh e3
      have h3 := bnd_none hl e2
      subst h3
      obtain ⟨⟨h6, h7⟩, h⟩ := h
      refine .quiet _ h fun μ w a hinv hp => ⟨_, ?_, VA.str' _ _ _⟩
      have h8 := (hp.get (by simp [ho, Op.operands]) h4 h5).int_inv
      simp [execOp, ho, (hp.get hm hx e1).str_inv, h8, Instr.sliceAt, Instr.slice, run_underlying ht, Instr.sliceBounds, sliceBound_run h6 h7]
    · rename_i k l k' l' e2 e3
      obtain ⟨xl, r, rfl, h4, h5⟩ := bnd_some hl e2
      obtain ⟨xh, r', rfl, h4', h5'⟩ := bnd_some hh e3
      obtain ⟨⟨h6, h7, h7'⟩, h⟩ := h
      refine .quiet _ h fun μ w a hinv hp => ⟨_, ?_, VA.str' _ _ _⟩
      have h8 := (hp.get (by simp [ho, Op.operands]) h4 h5).int_inv
      have h8' := (hp.get (by simp [ho, Op.operands]) h4' h5').int_inv
      have h9 : (0 : Int) ≤ l' := by omega
      have h10 : l ≤ ((l'.toNat : Nat) : Int) := by omega
      simp [execOp, ho, (hp.get hm hx e1).str_inv, h8, h8', Instr.sliceAt, Instr.slice, run_underlying ht, Instr.sliceBounds, sliceBound_run h9 h7', sliceBound_run h6 h10]
    · exact h.elim
  · exact h.elim

/-- Cutting a slice of the model. -/
theorem run_cut {t e : TypeId} {n : Nat} (ht : P.underlying t = some (.slice e)) (hn : sizeT P e = some n) (w : World) (A : Option Addr) (len cap l h : Nat) (lv hv : Option Value) (h1 : ∀ v, lv = some v → ∃ k, v = .int k (l : Int)) (h2 : ∀ v, hv = some v → ∃ k, v = .int k (h : Int)) (h3 : lv = none → l = 0) (h4 : hv = none → h = len) (h5 : l ≤ h) (h6 : h ≤ cap) :
    (Instr.slice t (.slice A len cap) lv hv none).run P w = .ok (.slice (if cap = l then A else A.map (·.add (l * n))) (h - l) (cap - l)) w := by
  obtain ⟨i, hi, hz⟩ := Option.map_eq_some_iff.1 hn
  have hs : (Instr.sliceBounds true len cap lv hv none).run P w = .ok (l, h, cap) w := by
    cases hv with
    | none =>
      have := h4 rfl
      subst this
      cases lv with
      | none => have := h3 rfl; subst this; simp [Instr.sliceBounds]
      | some v =>
        obtain ⟨k, rfl⟩ := h1 v rfl
        have := sliceBound_run (P := P) (w := w) (k := k) (i := (l : Int)) (y := h) (code := .sliceB) (by omega) (by omega)
        simp [Instr.sliceBounds, this]
    | some u =>
      obtain ⟨k, rfl⟩ := h2 u rfl
      have hb := sliceBound_run (P := P) (w := w) (k := k) (i := (h : Int)) (y := cap) (code := .sliceAcap) (by omega) (by omega)
      cases lv with
      | none => have := h3 rfl; subst this; simp [Instr.sliceBounds, hb]
      | some v =>
        obtain ⟨k', rfl⟩ := h1 v rfl
        have := sliceBound_run (P := P) (w := w) (k := k') (i := (l : Int)) (y := h) (code := .sliceB) (by omega) (by omega)
        simp [Instr.sliceBounds, hb, this]
  simp [Instr.slice, run_underlying ht, hs, sizeOf, typeInfo, hi, hz]

/-- A cut of a list that nobody writes. -/
theorem VP.cut {M : Nat → Prop} {w : World} {v : Value} {sz : Nat} {es : List PV} (h : VP M w v (.list sz es)) {l k : Nat} (h1 : l ≤ k) (h2 : k ≤ es.length) :
    ∃ A c, v = .slice A es.length c ∧ es.length ≤ c ∧ VP M w (.slice (if c = l then A else A.map (·.add (l * sz))) (k - l) (c - l)) (.list sz ((es.take k).drop l)) := by
  obtain ⟨A, c, rfl, hc, hr, h0, ha⟩ := h.list_row
  refine ⟨A, c, rfl, hc, ?_⟩
  have hlen : ((es.take k).drop l).length = k - l := by simp; omega
  by_cases e : es = []
  · subst e
    have e2 : k = 0 := by simpa using h2
    subst e2
    have e3 : l = 0 := by omega
    subst e3
    refine .list0 sz _ _ fun hn => ?_
    split at hn
    · omega
    · cases A with
      | none => have := h0 rfl; omega
      | some a => cases hn
  cases A with
  | none =>
    have := h0 rfl
    exact absurd (List.length_eq_zero_iff.1 (by omega)) e
  | some ad =>
    obtain ⟨b, off, sp⟩ := ad
    obtain ⟨rfl, h3, h4⟩ := ha _ rfl e
    by_cases e : c = l
    · rw [if_pos e]
      have e2 : (es.take k).drop l = [] := List.length_eq_zero_iff.1 (by rw [hlen]; omega)
      rw [e2, show k - l = ([] : List PV).length by simp; omega]
      exact VP.of_row RowOf.nil h3 h4 (by simp)
    · rw [if_neg e]
      simp only [Option.map_some, add_none]
      rw [← hlen]
      refine VP.of_row ((hr.take k).drop l fun j => ?_) h3 h4 (by rw [hlen]; omega)
      simp only [cellsAt, add_none, Nat.add_assoc]

theorem s_cutL {t e : TypeId} {x : Operand} {l0 h0 m0 : Option Operand} {rx : Rv} {rl rh rm : Option Rv} {n : Nat} (ho : o.op = .slice t x l0 h0 m0) (ht : P.underlying t = some (.slice e)) (hn : sizeT P e = some n) (hx : rv x = some rx) (hl : rvO l0 = some rl) (hh : rvO h0 = some rh) (hmx : rvO m0 = some rm) (h : opV P d (.cutL n rx rl rh rm) fr ba lo K) : Sound1 P o fr ba lo K := by
  have hm : x ∈ o.op.operands.toList := by simp [ho, Op.operands]
  simp only [opV, evK_eq, evOK_eq] at h
  split at h
  · exact h.elim
  · have em : m0 = none := by
      cases m0 with
      | none => rfl
      | some x => obtain ⟨r, _, h2⟩ := Option.map_eq_some_iff.1 hmx; cases h2
    subst em
    have run : ∀ (a : Act) (w : World) (A : Option Addr) (len cap : Nat) (v : Value), a.eval x = .slice A len cap → (Instr.slice t (.slice A len cap) (l0.map a.eval) (h0.map a.eval) none).run P w = .ok v w → (execOp a.eval o).run P w = .ok (.value v) w := fun a w A len cap v h1 h2 => by
      simp [execOp, ho, h1, Instr.sliceAt, run_underlying ht, h2]
    have listc : ∀ (sz' : Nat) (es : List PV) (l k : Nat), n = sz' → evF rx fr = .p (.list sz' es) → l ≤ k → k ≤ es.length →
        (∀ (a : Act) (μ : List MI) (w : World), Opnds o a μ w ba fr → (∀ v, l0.map a.eval = some v → ∃ q, v = .int q (l : Int)) ∧ (∀ v, h0.map a.eval = some v → ∃ q, v = .int q (k : Int))) → (l0 = none → l = 0) → (h0 = none → k = es.length) →
        K (.p (.list n ((es.take k).drop l))) ba lo → Sound1 P o fr ba lo K := by
      intro sz' es l k e0 e1 h1 h2 h3 h4 h5 hk
      subst e0
      refine .quiet _ hk fun μ w a hinv hp => ?_
      obtain ⟨A, c, h6, h7, h8⟩ := (hp.get hm hx e1).pv.cut h1 h2
      obtain ⟨h9, h10⟩ := h3 a μ w hp
      exact ⟨_, run a w A es.length c _ h6 (run_cut ht hn w A _ _ l k _ _ h9 h10 (fun e => h4 (by simpa using e)) (fun e => h5 (by simpa using e)) h1 (by omega)), .p _ _ h8⟩
    split at h
    · rename_i sz' es e1
      obtain ⟨e0, h⟩ := h
      split at h
      · rename_i e2 e3
        have h2 := bnd_none hl e2
        have h3 := bnd_none hh e3
        subst h2; subst h3
        refine listc sz' es 0 es.length e0 e1 (Nat.zero_le _) (Nat.le_refl _) (fun a μ w hp => ⟨fun v hv => by simp at hv, fun v hv => by simp at hv⟩) (fun _ => rfl) (fun _ => rfl) ?_
        simpa using h
      · rename_i k l e2 e3
        obtain ⟨xl, r, rfl, h4, h5⟩ := bnd_some hl e2
        have h3 := bnd_none hh e3
        subst h3
        obtain ⟨⟨h6, h7⟩, h⟩ := h
        refine listc sz' es l.toNat es.length e0 e1 (by omega) (Nat.le_refl _) (fun a μ w hp => ⟨fun v hv => ?_, fun v hv => by simp at hv⟩) (fun e => by cases e) (fun _ => rfl) (by simpa using h)
        have h8 := (hp.get (by simp [ho, Op.operands]) h4 h5).int_inv
        simp only [Option.map_some, Option.some.injEq, h8] at hv
        subst hv
        exact ⟨k, by rw [Int.toNat_of_nonneg h6]⟩
      · rename_i k l e2 e3
        obtain ⟨xl, r, rfl, h4, h5⟩ := bnd_some hh e3
        have h3 := bnd_none hl e2
        subst h3
        obtain ⟨⟨h6, h7⟩, h⟩ := h
        refine listc sz' es 0 l.toNat e0 e1 (by omega) (by omega) (fun a μ w hp => ⟨fun v hv => by simp at hv, fun v hv => ?_⟩) (fun _ => rfl) (fun e => by cases e) (by simpa using h)
        have h8 := (hp.get (by simp [ho, Op.operands]) h4 h5).int_inv
        simp only [Option.map_some, Option.some.injEq, h8] at hv
        subst hv
        exact ⟨k, by rw [Int.toNat_of_nonneg h6]⟩
      · rename_i k l k' l' e2 e3
        obtain ⟨xl, r, rfl, h4, h5⟩ := bnd_some hl e2
        obtain ⟨xh, r', rfl, h4', h5'⟩ := bnd_some hh e3
        obtain ⟨⟨h6, h7, h7'⟩, h⟩ := h
        refine listc sz' es l.toNat l'.toNat e0 e1 (by omega) (by omega) (fun a μ w hp => ⟨fun v hv => ?_, fun v hv => ?_⟩) (fun e => by cases e) (fun e => by cases e) h
        · have h8 := (hp.get (by simp [ho, Op.operands]) h4 h5).int_inv
          simp only [Option.map_some, Option.some.injEq, h8] at hv
          subst hv
          exact ⟨k, by rw [Int.toNat_of_nonneg h6]⟩
        · have h8 := (hp.get (by simp [ho, Op.operands]) h4' h5').int_inv
          simp only [Option.map_some, Option.some.injEq, h8] at hv
          subst hv
          exact ⟨k', by rw [Int.toNat_of_nonneg (by omega)]⟩
      · exact h.elim
    · rename_i e1
      have nil : (∀ (a : Act) (μ : List MI) (w : World), Opnds o a μ w ba fr → (∀ v, l0.map a.eval = some v → ∃ q, v = .int q ((0 : Nat) : Int)) ∧ (∀ v, h0.map a.eval = some v → ∃ q, v = .int q ((0 : Nat) : Int))) → K (.p .nils) ba lo → Sound1 P o fr ba lo K := by
        intro h3 hk
        refine .quiet _ hk fun μ w a hinv hp => ?_
        have h1 := (hp.get hm hx e1).pv
        generalize hv : a.eval x = v at h1
        cases h1
        obtain ⟨h9, h10⟩ := h3 a μ w hp
        refine ⟨_, run a w none 0 0 _ hv (run_cut ht hn w none 0 0 0 0 _ _ h9 h10 (fun _ => rfl) (fun _ => rfl) (Nat.le_refl _) (Nat.le_refl _)), ?_⟩
        exact .p _ _ .nils
      split at h
      · rename_i e2 e3
        have h2 := bnd_none hl e2
        have h3 := bnd_none hh e3
        subst h2; subst h3
        exact nil (fun a μ w hp => ⟨fun v hv => by simp at hv, fun v hv => by simp at hv⟩) h
      · rename_i k l e2 e3
        obtain ⟨xl, r, rfl, h4, h5⟩ := bnd_some hl e2
        have h3 := bnd_none hh e3
        subst h3
        obtain ⟨rfl, h⟩ := h
        refine nil (fun a μ w hp => ⟨fun v hv => ?_, fun v hv => by simp at hv⟩) h
        have h8 := (hp.get (by simp [ho, Op.operands]) h4 h5).int_inv
        simp only [Option.map_some, Option.some.injEq, h8] at hv
        subst hv
        exact ⟨k, rfl⟩
      · rename_i k l e2 e3
        obtain ⟨xl, r, rfl, h4, h5⟩ := bnd_some hh e3
        have h3 := bnd_none hl e2
        subst h3
        obtain ⟨rfl, h⟩ := h
        refine nil (fun a μ w hp => ⟨fun v hv => by simp at hv, fun v hv => ?_⟩) h
        have h8 := (hp.get (by simp [ho, Op.operands]) h4 h5).int_inv
        simp only [Option.map_some, Option.some.injEq, h8] at hv
        subst hv
        exact ⟨k, rfl⟩
      · rename_i k l k' l' e2 e3
        obtain ⟨xl, r, rfl, h4, h5⟩ := bnd_some hl e2
        obtain ⟨xh, r', rfl, h4', h5'⟩ := bnd_some hh e3
        obtain ⟨⟨rfl, rfl⟩, h⟩ := h
        refine nil (fun a μ w hp => ⟨fun v hv => ?_, fun v hv => ?_⟩) h
        · have h8 := (hp.get (by simp [ho, Op.operands]) h4 h5).int_inv
          simp only [Option.map_some, Option.some.injEq, h8] at hv
          subst hv
          exact ⟨k, rfl⟩
        · have h8 := (hp.get (by simp [ho, Op.operands]) h4' h5').int_inv
          simp only [Option.map_some, Option.some.injEq, h8] at hv
          subst hv
          exact ⟨k', rfl⟩
      · exact h.elim
    · rename_i sz' es sp e1
      obtain ⟨rfl, h⟩ := h
      split at h
      · rename_i k l e2 e3
        obtain ⟨xl, r, rfl, h4, h5⟩ := bnd_some hh e3
        have h3 := bnd_none hl e2
        subst h3
        obtain ⟨⟨h6, h7⟩, h⟩ := h
        refine .quiet _ h fun μ w a hinv hp => ?_
        obtain ⟨b, off, c, h8, h9, h10, h11, h12⟩ := (hp.get hm hx e1).pv.lent_row
        have h13 := (hp.get (by simp [ho, Op.operands]) h4 h5).int_inv
        have h14 : l.toNat ≤ (es ++ sp).length := by omega
        refine ⟨_, run a w _ es.length c _ h8 (run_cut ht hn w _ _ _ 0 l.toNat _ _ (fun v hv => by simp at hv) (fun v hv => ?_) (fun _ => rfl) (fun e => by simp at e) (Nat.zero_le _) (by omega)), ?_⟩
        · simp only [Option.map_some, Option.some.injEq, h13] at hv
          subst hv
          exact ⟨k, by rw [Int.toNat_of_nonneg h6]⟩
        · have e5 : (if c = 0 then (some ⟨b, off, none⟩ : Option Addr) else (some (⟨b, off, none⟩ : Addr)).map (·.add (0 * n))) = some ⟨b, off, none⟩ := by
            split
            · rfl
            · simp [Addr.add]
          rw [e5, Nat.sub_zero, Nat.sub_zero]
          have e6 : l.toNat = ((es ++ sp).take l.toNat).length := by rw [List.length_take]; omega
          have hcut : VP (blocks μ) w (.slice (some ⟨b, off, none⟩) ((es ++ sp).take l.toNat).length c) (.lent n ((es ++ sp).take l.toNat) ((es ++ sp).drop l.toNat)) :=
            VP.of_lent (by rw [List.take_append_drop]; exact h10) h11 h12 (by rw [List.take_append_drop]; exact h9)
          rw [← e6] at hcut
          exact .p _ _ hcut
      · exact h.elim
    · rename_i r g sz' len e1
      obtain ⟨hal, h⟩ := h
      have alive : ∀ {μ : List MI} {w : World}, Inv μ w ba lo → ∃ b n', Ctx.at ⟨blocks μ, ba.length, μ⟩ r = some (.buf b g n') := by
        intro μ w hinv
        cases r with
        | l m =>
          obtain ⟨o', h5, h6⟩ := atK_out _ _ _ hal
          split at h6
          · rename_i g' sz' es
            subst h6
            obtain ⟨mi, h7, h8⟩ := hinv.at_l h5
            rcases h8.row with ⟨n', rfl, rfl⟩ | ⟨b, xs, t', rfl, _, _, _⟩
            · exact ⟨_, _, h7⟩
            · exact ⟨_, _, h7⟩
          · exact h6.elim
        | b id =>
          obtain ⟨ob, h5, h6⟩ := atK_out _ _ _ hal
          cases ob <;> first | exact (show False from h6).elim | skip
          rename_i g' sz' es
          obtain rfl := h6
          obtain ⟨mi, h7, h8⟩ := hinv.at_b h5
          rcases h8.of_take.row with ⟨n', rfl, rfl⟩ | ⟨b, xs, t', rfl, _, _, _⟩
          · exact ⟨_, _, h7⟩
          · exact ⟨_, _, h7⟩
      have cutv : ∀ (k : Nat), k ≤ len → (∀ (a : Act) (μ : List MI) (w : World), Opnds o a μ w ba fr → (∀ v, l0.map a.eval = some v → ∃ q, v = .int q ((0 : Nat) : Int)) ∧ (∀ v, h0.map a.eval = some v → ∃ q, v = .int q (k : Int))) → (h0 = none → k = len) → K (.view r g sz' k) ba lo → Sound1 P o fr ba lo K := by
        intro k hk2 h3 h4 hk
        refine .quiet _ hk fun μ w a hinv hp => ?_
        obtain ⟨b, n', h5⟩ := alive hinv
        obtain ⟨h9, h10⟩ := h3 a μ w hp
        rcases view_inv (hp.get hm hx e1) h5 with ⟨rfl, h6, rfl⟩ | ⟨b', cap, rfl, h6, h7, h8⟩
        · have : k = 0 := by omega
          subst this
          exact ⟨_, run a w none 0 0 _ h6 (run_cut ht hn w none 0 0 0 0 _ _ h9 h10 (fun _ => rfl) (fun _ => rfl) (Nat.le_refl _) (Nat.le_refl _)), .view0 r g sz' n' h5⟩
        · refine ⟨_, run a w _ len cap _ h6 (run_cut ht hn w _ _ _ 0 k _ _ h9 h10 (fun _ => rfl) (fun e => h4 (by simpa using e)) (Nat.zero_le _) (by omega)), ?_⟩
          have e5 : (if cap = 0 then (some ⟨b', 0, none⟩ : Option Addr) else (some (⟨b', 0, none⟩ : Addr)).map (·.add (0 * n))) = some ⟨b', 0, none⟩ := by
            split
            · rfl
            · simp [Addr.add]
          rw [e5, Nat.sub_zero, Nat.sub_zero]
          exact .view r g sz' n' b' k cap h5 (by omega) h8
      split at h
      · rename_i k l e2 e3
        obtain ⟨xl, r, rfl, h4, h5⟩ := bnd_some hh e3
        have h3 := bnd_none hl e2
        subst h3
        obtain ⟨⟨h6, h7⟩, h⟩ := h
        refine cutv l.toNat (by omega) (fun a μ w hp => ⟨fun v hv => by simp at hv, fun v hv => ?_⟩) (fun e => by cases e) h
        have h8 := (hp.get (by simp [ho, Op.operands]) h4 h5).int_inv
        simp only [Option.map_some, Option.some.injEq, h8] at hv
        subst hv
        exact ⟨k, by rw [Int.toNat_of_nonneg h6]⟩
      · rename_i e2 e3
        have h2 := bnd_none hl e2
        have h3 := bnd_none hh e3
        subst h2; subst h3
        exact cutv len (Nat.le_refl _) (fun a μ w hp => ⟨fun v hv => by simp at hv, fun v hv => by simp at hv⟩) (fun _ => rfl) h
      · exact h.elim
    · exact h.elim

end ops
end Go.Proofs.Ytkjidklifmcpnaa.AD
