/- A plainer machine, nine: parts of values, lengths, cuts, answers of several values. -/
import Derived.Test.YtgdimfogijfmiaaDoorG1
import Derived.MapKept
import Derived.WideMake
import Derived.Laws.StructEq
import Derived.Laws.MakeOwn
namespace Go.Proofs.YtgdimfogijfmiaaDoor.AD
set_option linter.unusedVariables false

section ops
variable {P : Program} {o : Oper} {fr : FR} {ba lo : List Ob} {K : AV → List Ob → List Ob → Prop} {d : Bool}

theorem run_part_some {w : World} {t : TypeId} {n off : Nat} {xs : Array Value} (h1 : isAggT P t = some true) (h2 : (P.info? t).map (·.size) = some n) : (part t xs off).run P w = .ok (.agg (xs.extract off (off + n))) w := by
  obtain ⟨i, hi, hn⟩ := Option.map_eq_some_iff.1 h2
  unfold isAggT at h1
  split at h1
  · rename_i hu
    simp [part, isAgg, run_underlying hu, sizeOf, typeInfo, hi, hn]
  · rename_i hu
    simp [part, isAgg, run_underlying hu, sizeOf, typeInfo, hi, hn]
  · cases h1
  · cases h1
theorem run_part_none {w : World} {t : TypeId} {off : Nat} {xs : Array Value} {v : Value} (h1 : isAggT P t = some false) (hv : xs[off]? = some v) : (part t xs off).run P w = .ok v w := by
  unfold isAggT at h1
  split at h1
  · cases h1
  · cases h1
  · rename_i td hu h2 h3
    simp only [part, isAgg, run_underlying h3, Sem.run_bind, Result.andThen_ok]
    simp [hv]
  · cases h1

theorem partP_out {t : TypeId} {n : Option Nat} (hr : readT P t = some n) {cs : List PV} {off : Nat} {k : AV → Prop} (h : readPK n (cs.drop off) k) : ∃ e, k (.p e) ∧ ∀ (M : Nat → Prop) (w : World) (v : Value), VP M w v (.agg cs) → ∃ xs c, v = .agg xs ∧ (part t xs off).run P w = .ok c w ∧ VP M w c e := by
  rcases readT_out hr with ⟨n, rfl, h1, h2⟩ | ⟨rfl, h1, h2⟩
  · obtain ⟨hl, hk⟩ := takeK_out _ _ _ h
    rw [List.length_drop] at hl
    refine ⟨_, hk, fun M w v hv => ?_⟩
    cases hv with
    | agg xs cs h3 h4 h5 =>
      refine ⟨xs, _, rfl, run_part_some h1 h2, .agg _ _ (by simp; omega) (fun j x e hx he => ?_) fun j x hx => ?_⟩
      · rw [Array.getElem?_extract] at hx
        split at hx
        · rw [List.getElem?_take] at he
          split at he
          · rw [List.getElem?_drop] at he
            exact h4 _ _ _ hx he
          · cases he
        · cases hx
      · rw [Array.getElem?_extract] at hx
        split at hx
        · exact h5 _ _ hx
        · cases hx
  · obtain ⟨x, r, he, hk⟩ := headK_out h
    refine ⟨_, hk, fun M w v hv => ?_⟩
    cases hv with
    | agg xs cs h3 h4 h5 =>
      have h6 : cs[off]? = some x := by
        have : (cs.drop off)[0]? = some x := by rw [he]; rfl
        rwa [List.getElem?_drop] at this
      have h7 : off < xs.size := by rw [h3]; exact get_lt h6
      exact ⟨xs, _, rfl, run_part_none h1 (Array.getElem?_eq_getElem h7), h4 _ _ _ (Array.getElem?_eq_getElem h7) h6⟩

theorem partA_out {t : TypeId} {n : Option Nat} (hr : readT P t = some n) {cs : List AV} {off : Nat} {k : AV → Prop} (h : readAK n (cs.drop off) k) : ∃ a, k a ∧ ∀ (Γ : Ctx) (w : World) (v : Value), VA Γ w v (.agg cs) → ∃ xs c, v = .agg xs ∧ (part t xs off).run P w = .ok c w ∧ VA Γ w c a := by
  rcases readT_out hr with ⟨n, rfl, h1, h2⟩ | ⟨rfl, h1, h2⟩
  · obtain ⟨hl, h⟩ := takeK_out _ _ _ h
    obtain ⟨a, ha, hk⟩ := mkAggK_out h
    rw [List.length_drop] at hl
    refine ⟨_, hk, fun Γ w v hv => ?_⟩
    cases hv with
    | agg xs cs h3 h4 h5 =>
      refine ⟨xs, _, rfl, run_part_some h1 h2, VA.of_agg ⟨by simp; omega, fun j x e hx he => ?_⟩ (fun j x hx => ?_) ha⟩
      · rw [Array.getElem?_extract] at hx
        split at hx
        · rw [List.getElem?_take] at he
          split at he
          · rw [List.getElem?_drop] at he
            exact h4 _ _ _ hx he
          · cases he
        · cases hx
      · rw [Array.getElem?_extract] at hx
        split at hx
        · exact h5 _ _ hx
        · cases hx
  · obtain ⟨x, r, he, hk⟩ := headK_out h
    refine ⟨_, hk, fun Γ w v hv => ?_⟩
    cases hv with
    | agg xs cs h3 h4 h5 =>
      have h6 : cs[off]? = some x := by
        have : (cs.drop off)[0]? = some x := by rw [he]; rfl
        rwa [List.getElem?_drop] at this
      have h7 : off < xs.size := by rw [h3]; exact get_lt h6
      exact ⟨xs, _, rfl, run_part_none h1 (Array.getElem?_eq_getElem h7), h4 _ _ _ (Array.getElem?_eq_getElem h7) h6⟩

theorem s_fld {t : TypeId} {x : Operand} {f : Nat} {rx : Rv} {fields : Array Field} {fd : Field} {n : Option Nat} (ho : o.op = .field t x f) (hs : P.underlying t = some (.struct fields)) (hf : fields[f]? = some fd) (hr : readT P fd.type = some n) (hx : rv x = some rx) (h : opV P d (.fld fd.offset n rx) fr ba lo K) : Sound1 P o fr ba lo K := by
  have hm : x ∈ o.op.operands.toList := by simp [ho, Op.operands]
  simp only [opV, evK_eq] at h
  have run : ∀ (a : Act) (w : World) (xs : Array Value) (c : Value), a.eval x = .agg xs → (part fd.type xs fd.offset).run P w = .ok c w → (execOp a.eval o).run P w = .ok (.value c) w := fun a w xs c h1 h2 => by
    simp [execOp, ho, h1, Instr.field, run_underlying hs, hf, asAgg, h2]
  split at h
  · rename_i cs e1
    obtain ⟨_, h⟩ := dropK_out _ _ _ h
    obtain ⟨e, hk, hl⟩ := partP_out hr h
    refine .quiet _ hk fun μ w a hi hp => ?_
    obtain ⟨xs, c, h1, h2, h3⟩ := hl _ w _ (hp.get hm hx e1).pv
    exact ⟨c, run a w xs c h1 h2, .p _ _ h3⟩
  · rename_i cs e1
    obtain ⟨_, h⟩ := dropK_out _ _ _ h
    obtain ⟨e, hk, hl⟩ := partA_out hr h
    refine .quiet _ hk fun μ w a hi hp => ?_
    obtain ⟨xs, c, h1, h2, h3⟩ := hl _ w _ (hp.get hm hx e1)
    exact ⟨c, run a w xs c h1 h2, h3⟩
  · exact h.elim

theorem s_idxA {t e : TypeId} {x i : Operand} {rx ri : Rv} {sz len : Nat} {n : Option Nat} (ho : o.op = .index t x i) (ht : P.underlying t = some (.array len e)) (hsz : sizeT P e = some sz) (hr : readT P e = some n) (hx : rv x = some rx) (hi : rv i = some ri) (h : opV P d (.idxA sz len n rx ri) fr ba lo K) : Sound1 P o fr ba lo K := by
  have hm : x ∈ o.op.operands.toList := by simp [ho, Op.operands]
  have hmi : i ∈ o.op.operands.toList := by simp [ho, Op.operands]
  obtain ⟨ti, hti, htz⟩ := Option.map_eq_some_iff.1 hsz
  simp only [opV, evK_eq] at h
  split at h
  · rename_i cs k j e1 e2
    obtain ⟨⟨h3, h4⟩, h⟩ := h
    have h' : readPK n (cs.drop (j.toNat * sz)) fun v => K v ba lo := by
      rcases readT_out hr with ⟨m, rfl, h1, h2⟩ | ⟨rfl, h1, h2⟩
      · obtain ⟨h5, h6⟩ := h
        exact takeK_in _ _ _ (by rw [List.length_drop]; omega) h6
      · obtain ⟨c, h5, h6⟩ := h
        have h7 := get_lt h5
        rw [List.drop_eq_getElem_cons h7]
        rw [List.getElem?_eq_getElem h7] at h5
        cases h5
        exact h6
    obtain ⟨el, hk, hl⟩ := partP_out hr h'
    refine .quiet _ hk fun μ w a hinv hp => ?_
    obtain ⟨xs, c, h5, h6, h7⟩ := hl _ w _ (hp.get hm hx e1).pv
    refine ⟨c, ?_, .p _ _ h7⟩
    simp [execOp, ho, h5, (hp.get hmi hi e2).int_inv, Instr.index, asIntOf, run_underlying ht, h3, h4, sizeOf, typeInfo, hti, htz, h6]
  · exact h.elim

theorem bytes_get {s : ByteArray} {i : Nat} {c : UInt8} (h : s.data.toList[i]? = some c) : s[i]? = some c := by
  have h1 := get_lt h
  have h2 : i < s.size := by rw [Array.length_toList] at h1; exact h1
  rw [getElem?_pos s i h2]
  rw [List.getElem?_eq_getElem h1] at h
  have h3 : s.data.toList[i] = c := Option.some.inj h
  rw [← h3, Array.getElem_toList]
  rfl

theorem s_idxS {t : TypeId} {x i : Operand} {rx ri : Rv} (ho : o.op = .index t x i) (ht : P.underlying t = some .string) (hx : rv x = some rx) (hi : rv i = some ri) (h : opV P d (.idxS rx ri) fr ba lo K) : Sound1 P o fr ba lo K := by
  have hm : x ∈ o.op.operands.toList := by simp [ho, Op.operands]
  have hmi : i ∈ o.op.operands.toList := by simp [ho, Op.operands]
  simp only [opV, evK_eq] at h
  split at h
  · rename_i s k j e1 e2
    obtain ⟨c, ⟨h3, h4⟩, h⟩ := h
    refine .quiet _ h fun μ w a hinv hp => ⟨_, ?_, VA.int' _ _ _ _⟩
    simp [execOp, ho, (hp.get hm hx e1).str_inv, (hp.get hmi hi e2).int_inv, Instr.index, asIntOf, run_underlying ht, h3, bytes_get h4]
  · exact h.elim

theorem sliceBound_run {w : World} {k : IntKind} {i : Int} {y : Nat} {code : BoundsCode} (h0 : 0 ≤ i) (h1 : i ≤ y) : (Instr.sliceBound (.int k i) y code).run P w = .ok i.toNat w := by
  simp [Instr.sliceBound, asIntOf, h0, h1]

theorem evOK_eq (x : Option Rv) (fr : FR) (k : Option AV → Prop) : evOK x fr k = k (x.map fun r => evF r fr) := by
  cases x
  · rfl
  · simp only [evOK, evK_eq, Option.map_some]

theorem bnd_none {l0 : Option Operand} {rl : Option Rv} (hl : rvO l0 = some rl) (e : (rl.map fun r => evF r fr) = none) : l0 = none := by
  cases l0 with
  | none => rfl
  | some x =>
    obtain ⟨r, h1, rfl⟩ := Option.map_eq_some_iff.1 hl
    cases e
theorem bnd_some {l0 : Option Operand} {rl : Option Rv} (hl : rvO l0 = some rl) {k : IntKind} {j : Int} (e : (rl.map fun r => evF r fr) = some (.p (.int k j))) : ∃ x r, l0 = some x ∧ rv x = some r ∧ evF r fr = .p (.int k j) := by
  cases l0 with
  | none => cases hl; cases e
  | some x =>
    obtain ⟨r, h1, rfl⟩ := Option.map_eq_some_iff.1 hl
    exact ⟨x, r, rfl, h1, Option.some.inj e⟩

theorem s_cutS {t : TypeId} {x : Operand} {l0 h0 : Option Operand} {rx : Rv} {rl rh : Option Rv} (ho : o.op = .slice t x l0 h0 none) (ht : P.underlying t = some .string) (hx : rv x = some rx) (hl : rvO l0 = some rl) (hh : rvO h0 = some rh) (h : opV P d (.cutS rx rl rh) fr ba lo K) : Sound1 P o fr ba lo K := by
  have hm : x ∈ o.op.operands.toList := by simp [ho, Op.operands]
  simp only [opV, evK_eq, evOK_eq] at h
  split at h
  · rename_i s e1
    split at h
    · rename_i e2 e3
      have h2 := bnd_none hl e2
      have h3 := bnd_none hh e3
      subst h2; subst h3
      refine .quiet _ h fun μ w a hinv hp => ⟨_, ?_, VA.str' _ _ _⟩
      simp [execOp, ho, (hp.get hm hx e1).str_inv, Instr.sliceAt, Instr.slice, run_underlying ht, Instr.sliceBounds]
    · rename_i k l e2 e3
      obtain ⟨xl, r, rfl, h4, h5⟩ := bnd_some hl e2
      have h3 := bnd_none hh e3
      subst h3
      obtain ⟨⟨h6, h7⟩, h⟩ := h
      refine .quiet _ h fun μ w a hinv hp => ⟨_, ?_, VA.str' _ _ _⟩
      have h8 := (hp.get (by simp [ho, Op.operands]) h4 h5).int_inv
      simp [execOp, ho, (hp.get hm hx e1).str_inv, h8, Instr.sliceAt, Instr.slice, run_underlying ht, Instr.sliceBounds, sliceBound_run h6 h7]
    · rename_i k l e2 e3
      obtain ⟨xl, r, rfl, h4, h5⟩ := bnd_some hh e3
      have h3 := bnd_none hl e2
      subst h3
      obtain ⟨⟨h6, h7⟩, h⟩ := h
      refine .quiet _ h fun μ w a hinv hp => ⟨_, ?_, VA.str' _ _ _⟩
      have h8 := (hp.get (by simp [ho, Op.operands]) h4 h5).int_inv
      simp [execOp, ho, (hp.get hm hx e1).str_inv, h8, Instr.sliceAt, Instr.slice, run_underlying ht, Instr.sliceBounds, sliceBound_run h6 h7]
    · rename_i k l k' l' e2 e3
      obtain ⟨xl, r, rfl, h4, h5⟩ := bnd_some hl e2
      obtain ⟨xh, r', rfl, h4', h5'⟩ := bnd_some hh e3
      obtain ⟨⟨h6, h7, h7'⟩, h⟩ := h
      refine .quiet _ h fun μ w a hinv hp => ⟨_, ?_, VA.str' _ _ _⟩
      have h8 := (hp.get (by simp [ho, Op.operands]) h4 h5).int_inv
      have h8' := (hp.get (by simp [ho, Op.operands]) h4' h5').int_inv
      have h9 : (0 : Int) ≤ l' := by omega
      have h10 : l ≤ ((l'.toNat : Nat) : Int) := by omega
      simp [execOp, ho, (hp.get hm hx e1).str_inv, h8, h8', Instr.sliceAt, Instr.slice, run_underlying ht, Instr.sliceBounds, sliceBound_run h9 h7', sliceBound_run h6 h10]
    · exact h.elim
  · exact h.elim

/-- Cutting a slice of the model. -/
theorem run_cut {t e : TypeId} {n : Nat} (ht : P.underlying t = some (.slice e)) (hn : sizeT P e = some n) (w : World) (A : Option Addr) (len cap l h : Nat) (lv hv : Option Value) (h1 : ∀ v, lv = some v → ∃ k, v = .int k (l : Int)) (h2 : ∀ v, hv = some v → ∃ k, v = .int k (h : Int)) (h3 : lv = none → l = 0) (h4 : hv = none → h = len) (h5 : l ≤ h) (h6 : h ≤ cap) :
    (Instr.slice t (.slice A len cap) lv hv none).run P w = .ok (.slice (if cap = l then A else A.map (·.add (l * n))) (h - l) (cap - l)) w := by
  obtain ⟨i, hi, hz⟩ := Option.map_eq_some_iff.1 hn
  have hs : (Instr.sliceBounds true len cap lv hv none).run P w = .ok (l, h, cap) w := by
    cases hv with
    | none =>
      have := h4 rfl
      subst this
      cases lv with
      | none => have := h3 rfl; subst this; simp [Instr.sliceBounds]
      | some v =>
        obtain ⟨k, rfl⟩ := h1 v rfl
        have := sliceBound_run (P := P) (w := w) (k := k) (i := (l : Int)) (y := h) (code := .sliceB) (by omega) (by omega)
        simp [Instr.sliceBounds, this]
    | some u =>
      obtain ⟨k, rfl⟩ := h2 u rfl
      have hb := sliceBound_run (P := P) (w := w) (k := k) (i := (h : Int)) (y := cap) (code := .sliceAcap) (by omega) (by omega)
      cases lv with
      | none => have := h3 rfl; subst this; simp [Instr.sliceBounds, hb]
      | some v =>
        obtain ⟨k', rfl⟩ := h1 v rfl
        have := sliceBound_run (P := P) (w := w) (k := k') (i := (l : Int)) (y := h) (code := .sliceB) (by omega) (by omega)
        simp [Instr.sliceBounds, hb, this]
  simp [Instr.slice, run_underlying ht, hs, sizeOf, typeInfo, hi, hz]

/-- A cut of a list that nobody writes. -/
theorem VP.cut {M : Nat → Prop} {w : World} {v : Value} {sz : Nat} {es : List PV} (h : VP M w v (.list sz es)) {l k : Nat} (h1 : l ≤ k) (h2 : k ≤ es.length) :
    ∃ A c, v = .slice A es.length c ∧ es.length ≤ c ∧ VP M w (.slice (if c = l then A else A.map (·.add (l * sz))) (k - l) (c - l)) (.list sz ((es.take k).drop l)) := by
  obtain ⟨A, c, rfl, hc, hr, h0, ha⟩ := h.list_row
  refine ⟨A, c, rfl, hc, ?_⟩
  have hlen : ((es.take k).drop l).length = k - l := by simp; omega
  by_cases e : es = []
  · subst e
    have e2 : k = 0 := by simpa using h2
    subst e2
    have e3 : l = 0 := by omega
    subst e3
    refine .list0 sz _ _ fun hn => ?_
    split at hn
    · omega
    · cases A with
      | none => have := h0 rfl; omega
      | some a => cases hn
  cases A with
  | none =>
    have := h0 rfl
    exact absurd (List.length_eq_zero_iff.1 (by omega)) e
  | some ad =>
    obtain ⟨b, off, sp⟩ := ad
    obtain ⟨rfl, h3, h4⟩ := ha _ rfl e
    by_cases e : c = l
    · rw [if_pos e]
      have e2 : (es.take k).drop l = [] := List.length_eq_zero_iff.1 (by rw [hlen]; omega)
      rw [e2, show k - l = ([] : List PV).length by simp; omega]
      exact VP.of_row RowOf.nil h3 h4 (by simp)
    · rw [if_neg e]
      simp only [Option.map_some, add_none]
      rw [← hlen]
      refine VP.of_row ((hr.take k).drop l fun j => ?_) h3 h4 (by rw [hlen]; omega)
      simp only [cellsAt, add_none, Nat.add_assoc]

theorem s_cutL {t e : TypeId} {x : Operand} {l0 h0 m0 : Option Operand} {rx : Rv} {rl rh rm : Option Rv} {n : Nat} (ho : o.op = .slice t x l0 h0 m0) (ht : P.underlying t = some (.slice e)) (hn : sizeT P e = some n) (hx : rv x = some rx) (hl : rvO l0 = some rl) (hh : rvO h0 = some rh) (hmx : rvO m0 = some rm) (h : opV P d (.cutL n rx rl rh rm) fr ba lo K) : Sound1 P o fr ba lo K := by
  have hm : x ∈ o.op.operands.toList := by simp [ho, Op.operands]
  simp only [opV, evK_eq, evOK_eq] at h
  split at h
  · exact h.elim
  · have em : m0 = none := by
      cases m0 with
      | none => rfl
      | some x => obtain ⟨r, _, h2⟩ := Option.map_eq_some_iff.1 hmx; cases h2
    subst em
    have run : ∀ (a : Act) (w : World) (A : Option Addr) (len cap : Nat) (v : Value), a.eval x = .slice A len cap → (Instr.slice t (.slice A len cap) (l0.map a.eval) (h0.map a.eval) none).run P w = .ok v w → (execOp a.eval o).run P w = .ok (.value v) w := fun a w A len cap v h1 h2 => by
      simp [execOp, ho, h1, Instr.sliceAt, run_underlying ht, h2]
    have listc : ∀ (sz' : Nat) (es : List PV) (l k : Nat), n = sz' → evF rx fr = .p (.list sz' es) → l ≤ k → k ≤ es.length →
        (∀ (a : Act) (μ : List MI) (w : World), Opnds o a μ w ba fr → (∀ v, l0.map a.eval = some v → ∃ q, v = .int q (l : Int)) ∧ (∀ v, h0.map a.eval = some v → ∃ q, v = .int q (k : Int))) → (l0 = none → l = 0) → (h0 = none → k = es.length) →
        K (.p (.list n ((es.take k).drop l))) ba lo → Sound1 P o fr ba lo K := by
      intro sz' es l k e0 e1 h1 h2 h3 h4 h5 hk
      subst e0
      refine .quiet _ hk fun μ w a hinv hp => ?_
      obtain ⟨A, c, h6, h7, h8⟩ := (hp.get hm hx e1).pv.cut h1 h2
      obtain ⟨h9, h10⟩ := h3 a μ w hp
      exact ⟨_, run a w A es.length c _ h6 (run_cut ht hn w A _ _ l k _ _ h9 h10 (fun e => h4 (by simpa using e)) (fun e => h5 (by simpa using e)) h1 (by omega)), .p _ _ h8⟩
    split at h
    · rename_i sz' es e1
      obtain ⟨e0, h⟩ := h
      split at h
      · rename_i e2 e3
        have h2 := bnd_none hl e2
        have h3 := bnd_none hh e3
        subst h2; subst h3
        refine listc sz' es 0 es.length e0 e1 (Nat.zero_le _) (Nat.le_refl _) (fun a μ w hp => ⟨fun v hv => by simp at hv, fun v hv => by simp at hv⟩) (fun _ => rfl) (fun _ => rfl) ?_
        simpa using h
      · rename_i k l e2 e3
        obtain ⟨xl, r, rfl, h4, h5⟩ := bnd_some hl e2
        have h3 := bnd_none hh e3
        subst h3
        obtain ⟨⟨h6, h7⟩, h⟩ := h
        refine listc sz' es l.toNat es.length e0 e1 (by omega) (Nat.le_refl _) (fun a μ w hp => ⟨fun v hv => ?_, fun v hv => by simp at hv⟩) (fun e => by cases e) (fun _ => rfl) (by simpa using h)
        have h8 := (hp.get (by simp [ho, Op.operands]) h4 h5).int_inv
        simp only [Option.map_some, Option.some.injEq, h8] at hv
        subst hv
        exact ⟨k, by rw [Int.toNat_of_nonneg h6]⟩
      · rename_i k l e2 e3
        obtain ⟨xl, r, rfl, h4, h5⟩ := bnd_some hh e3
        have h3 := bnd_none hl e2
        subst h3
        obtain ⟨⟨h6, h7⟩, h⟩ := h
        refine listc sz' es 0 l.toNat e0 e1 (by omega) (by omega) (fun a μ w hp => ⟨fun v hv => by simp at hv, fun v hv => ?_⟩) (fun _ => rfl) (fun e => by cases e) (by simpa using h)
        have h8 := (hp.get (by simp [ho, Op.operands]) h4 h5).int_inv
        simp only [Option.map_some, Option.some.injEq, h8] at hv
        subst hv
        exact ⟨k, by rw [Int.toNat_of_nonneg h6]⟩
      · rename_i k l k' l' e2 e3
        obtain ⟨xl, r, rfl, h4, h5⟩ := bnd_some hl e2
        obtain ⟨xh, r', rfl, h4', h5'⟩ := bnd_some hh e3
        obtain ⟨⟨h6, h7, h7'⟩, h⟩ := h
        refine listc sz' es l.toNat l'.toNat e0 e1 (by omega) (by omega) (fun a μ w hp => ⟨fun v hv => ?_, fun v hv => ?_⟩) (fun e => by cases e) (fun e => by cases e) h
        · have h8 := (hp.get (by simp [ho, Op.operands]) h4 h5).int_inv
          simp only [Option.map_some, Option.some.injEq, h8] at hv
          subst hv
          exact ⟨k, by rw [Int.toNat_of_nonneg h6]⟩
        · have h8 := (hp.get (by simp [ho, Op.operands]) h4' h5').int_inv
          simp only [Option.map_some, Option.some.injEq, h8] at hv
          subst hv
          exact ⟨k', by rw [Int.toNat_of_nonneg (by omega)]⟩
      · exact h.elim
    · rename_i e1
      have nil : (∀ (a : Act) (μ : List MI) (w : World), Opnds o a μ w ba fr → (∀ v, l0.map a.eval = some v → ∃ q, v = .int q ((0 : Nat) : Int)) ∧ (∀ v, h0.map a.eval = some v → ∃ q, v = .int q ((0 : Nat) : Int))) → K (.p .nils) ba lo → Sound1 P o fr ba lo K := by
        intro h3 hk
        refine .quiet _ hk fun μ w a hinv hp => ?_
        have h1 := (hp.get hm hx e1).pv
        generalize hv : a.eval x = v at h1
        cases h1
        obtain ⟨h9, h10⟩ := h3 a μ w hp
        refine ⟨_, run a w none 0 0 _ hv (run_cut ht hn w none 0 0 0 0 _ _ h9 h10 (fun _ => rfl) (fun _ => rfl) (Nat.le_refl _) (Nat.le_refl _)), ?_⟩
        exact .p _ _ .nils
      split at h
      · rename_i e2 e3
        have h2 := bnd_none hl e2
        have h3 := bnd_none hh e3
        subst h2; subst h3
        exact nil (fun a μ w hp => ⟨fun v hv => by simp at hv, fun v hv => by simp at hv⟩) h
      · rename_i k l e2 e3
        obtain ⟨xl, r, rfl, h4, h5⟩ := bnd_some hl e2
        have h3 := bnd_none hh e3
        subst h3
        obtain ⟨rfl, h⟩ := h
        refine nil (fun a μ w hp => ⟨fun v hv => ?_, fun v hv => by simp at hv⟩) h
        have h8 := (hp.get (by simp [ho, Op.operands]) h4 h5).int_inv
        simp only [Option.map_some, Option.some.injEq, h8] at hv
        subst hv
        exact ⟨k, rfl⟩
      · rename_i k l e2 e3
        obtain ⟨xl, r, rfl, h4, h5⟩ := bnd_some hh e3
        have h3 := bnd_none hl e2
        subst h3
        obtain ⟨rfl, h⟩ := h
        refine nil (fun a μ w hp => ⟨fun v hv => by simp at hv, fun v hv => ?_⟩) h
        have h8 := (hp.get (by simp [ho, Op.operands]) h4 h5).int_inv
        simp only [Option.map_some, Option.some.injEq, h8] at hv
        subst hv
        exact ⟨k, rfl⟩
      · rename_i k l k' l' e2 e3
        obtain ⟨xl, r, rfl, h4, h5⟩ := bnd_some hl e2
        obtain ⟨xh, r', rfl, h4', h5'⟩ := bnd_some hh e3
        obtain ⟨⟨rfl, rfl⟩, h⟩ := h
        refine nil (fun a μ w hp => ⟨fun v hv => ?_, fun v hv => ?_⟩) h
        · have h8 := (hp.get (by simp [ho, Op.operands]) h4 h5).int_inv
          simp only [Option.map_some, Option.some.injEq, h8] at hv
          subst hv
          exact ⟨k, rfl⟩
        · have h8 := (hp.get (by simp [ho, Op.operands]) h4' h5').int_inv
          simp only [Option.map_some, Option.some.injEq, h8] at hv
          subst hv
          exact ⟨k', rfl⟩
      · exact h.elim
    · rename_i e1
      split at h
      · rename_i k l e2 e3
        obtain ⟨xl, r, rfl, h4, h5⟩ := bnd_some hh e3
        have h3 := bnd_none hl e2
        subst h3
        obtain ⟨rfl, h⟩ := h
        refine .quiet _ h fun μ w a hinv hp => ?_
        have h1 := (hp.get hm hx e1).pv
        generalize hv : a.eval x = v at h1
        cases h1 with
        | emp A =>
        have h8 := (hp.get (by simp [ho, Op.operands]) h4 h5).int_inv
        refine ⟨_, run a w A 0 0 _ hv (run_cut ht hn w A 0 0 0 0 _ _ (fun v hv => by simp at hv) (fun v hv => ?_) (fun _ => rfl) (fun _ => rfl) (Nat.le_refl _) (Nat.le_refl _)), ?_⟩
        · simp only [Option.map_some, Option.some.injEq, h8] at hv
          subst hv
          exact ⟨k, rfl⟩
        · exact .p _ _ (.emp _)
      · exact h.elim
    · rename_i sz' es sp e1
      obtain ⟨rfl, h⟩ := h
      split at h
      · rename_i k l e2 e3
        obtain ⟨xl, r, rfl, h4, h5⟩ := bnd_some hh e3
        have h3 := bnd_none hl e2
        subst h3
        obtain ⟨⟨h6, h7⟩, h⟩ := h
        refine .quiet _ h fun μ w a hinv hp => ?_
        obtain ⟨b, off, c, h8, h9, h10, h11, h12⟩ := (hp.get hm hx e1).pv.lent_row
        have h13 := (hp.get (by simp [ho, Op.operands]) h4 h5).int_inv
        have h14 : l.toNat ≤ (es ++ sp).length := by omega
        refine ⟨_, run a w _ es.length c _ h8 (run_cut ht hn w _ _ _ 0 l.toNat _ _ (fun v hv => by simp at hv) (fun v hv => ?_) (fun _ => rfl) (fun e => by simp at e) (Nat.zero_le _) (by omega)), ?_⟩
        · simp only [Option.map_some, Option.some.injEq, h13] at hv
          subst hv
          exact ⟨k, by rw [Int.toNat_of_nonneg h6]⟩
        · have e5 : (if c = 0 then (some ⟨b, off, none⟩ : Option Addr) else (some (⟨b, off, none⟩ : Addr)).map (·.add (0 * n))) = some ⟨b, off, none⟩ := by
            split
            · rfl
            · simp [Addr.add]
          rw [e5, Nat.sub_zero, Nat.sub_zero]
          have e6 : l.toNat = ((es ++ sp).take l.toNat).length := by rw [List.length_take]; omega
          have hcut : VP (blocks μ) w (.slice (some ⟨b, off, none⟩) ((es ++ sp).take l.toNat).length c) (.lent n ((es ++ sp).take l.toNat) ((es ++ sp).drop l.toNat)) :=
            VP.of_lent (by rw [List.take_append_drop]; exact h10) h11 h12 (by rw [List.take_append_drop]; exact h9)
          rw [← e6] at hcut
          exact .p _ _ hcut
      · exact h.elim
    · rename_i r g sz' len e1
      obtain ⟨hal, h⟩ := h
      have alive : ∀ {μ : List MI} {w : World}, Inv μ w ba lo → ∃ b n', Ctx.at ⟨blocks μ, ba.length, μ⟩ r = some (.buf b g n') := fun hinv => aliveV_at hal hinv
      have cutv : ∀ (k : Nat), k ≤ len → (∀ (a : Act) (μ : List MI) (w : World), Opnds o a μ w ba fr → (∀ v, l0.map a.eval = some v → ∃ q, v = .int q ((0 : Nat) : Int)) ∧ (∀ v, h0.map a.eval = some v → ∃ q, v = .int q (k : Int))) → (h0 = none → k = len) → K (.view r g sz' k) ba lo → Sound1 P o fr ba lo K := by
        intro k hk2 h3 h4 hk
        refine .quiet _ hk fun μ w a hinv hp => ?_
        obtain ⟨b, n', h5⟩ := alive hinv
        obtain ⟨h9, h10⟩ := h3 a μ w hp
        rcases view_inv (hp.get hm hx e1) h5 with ⟨rfl, h6, rfl⟩ | ⟨b', cap, rfl, h6, h7, h8⟩
        · have : k = 0 := by omega
          subst this
          exact ⟨_, run a w none 0 0 _ h6 (run_cut ht hn w none 0 0 0 0 _ _ h9 h10 (fun _ => rfl) (fun _ => rfl) (Nat.le_refl _) (Nat.le_refl _)), .view0 r g sz' n' h5⟩
        · refine ⟨_, run a w _ len cap _ h6 (run_cut ht hn w _ _ _ 0 k _ _ h9 h10 (fun _ => rfl) (fun e => h4 (by simpa using e)) (Nat.zero_le _) (by omega)), ?_⟩
          have e5 : (if cap = 0 then (some ⟨b', 0, none⟩ : Option Addr) else (some (⟨b', 0, none⟩ : Addr)).map (·.add (0 * n))) = some ⟨b', 0, none⟩ := by
            split
            · rfl
            · simp [Addr.add]
          rw [e5, Nat.sub_zero, Nat.sub_zero]
          exact .view r g sz' n' b' k cap h5 (by omega) h8
      split at h
      · rename_i k l e2 e3
        obtain ⟨xl, r, rfl, h4, h5⟩ := bnd_some hh e3
        have h3 := bnd_none hl e2
        subst h3
        obtain ⟨⟨h6, h7⟩, h⟩ := h
        refine cutv l.toNat (by omega) (fun a μ w hp => ⟨fun v hv => by simp at hv, fun v hv => ?_⟩) (fun e => by cases e) h
        have h8 := (hp.get (by simp [ho, Op.operands]) h4 h5).int_inv
        simp only [Option.map_some, Option.some.injEq, h8] at hv
        subst hv
        exact ⟨k, by rw [Int.toNat_of_nonneg h6]⟩
      · rename_i e2 e3
        have h2 := bnd_none hl e2
        have h3 := bnd_none hh e3
        subst h2; subst h3
        exact cutv len (Nat.le_refl _) (fun a μ w hp => ⟨fun v hv => by simp at hv, fun v hv => by simp at hv⟩) (fun _ => rfl) h
      · rename_i k l e2 e3
        obtain ⟨xl, r1, rfl, h4, h5⟩ := bnd_some hl e2
        have h3 := bnd_none hh e3
        subst h3
        obtain ⟨rfl, ⟨h6, h7⟩, h⟩ := h
        refine .quiet _ h fun μ w a hinv hp => ?_
        obtain ⟨b, n', h15⟩ := alive hinv
        have h8 := (hp.get (by simp [ho, Op.operands]) h4 h5).int_inv
        have hb : ∀ v, (some xl).map a.eval = some v → ∃ q, v = .int q (l.toNat : Int) := fun v hv => by
          simp only [Option.map_some, Option.some.injEq, h8] at hv
          subst hv
          exact ⟨k, by rw [Int.toNat_of_nonneg h6]⟩
        rcases view_inv (hp.get hm hx e1) h15 with ⟨rfl, h9, rfl⟩ | ⟨b', cap, rfl, h9, h10, h11⟩
        · have e0 : l.toNat = 0 := by omega
          rw [e0] at hb
          refine ⟨_, run a w none 0 0 _ h9 (run_cut ht hn w none 0 0 0 0 _ _ hb (fun v hv => by simp at hv) (fun _ => rfl) (fun _ => rfl) (Nat.le_refl _) (Nat.le_refl _)), ?_⟩
          rw [e0]
          exact .tail0 r g _ n' 0 none _ h15
        · refine ⟨_, run a w _ len cap _ h9 (run_cut ht hn w _ _ _ l.toNat len _ _ hb (fun v hv => by simp at hv) (fun e => by simp at e) (fun _ => rfl) (by omega) (by omega)), ?_⟩
          by_cases e5 : cap = l.toNat
          · rw [if_pos e5, show len - l.toNat = 0 by omega, show cap - l.toNat = 0 by omega]
            exact .tail0 r g _ n' _ _ _ h15
          · rw [if_neg e5]
            simp only [Option.map_some, add_none, Nat.zero_add]
            exact .tail r g _ n' b' l.toNat (len - l.toNat) (cap - l.toNat) h15 (by omega) (by rw [show l.toNat + (cap - l.toNat) = cap by omega]; exact h11)
      · exact h.elim
    · rename_i r g sz' off len e1
      obtain ⟨hal, h⟩ := h
      have cutt : ∀ (l k : Nat), l ≤ k → k ≤ len → (l = 0 ∨ n = sz') → (∀ (a : Act) (μ : List MI) (w : World), Opnds o a μ w ba fr → (∀ v, l0.map a.eval = some v → ∃ q, v = .int q (l : Int)) ∧ (∀ v, h0.map a.eval = some v → ∃ q, v = .int q (k : Int))) → (l0 = none → l = 0) → (h0 = none → k = len) → K (.tail r g sz' (off + l) (k - l)) ba lo → Sound1 P o fr ba lo K := by
        intro l k hlk hk2 hsz h3 h3' h4 hk
        refine .quiet _ hk fun μ w a hinv hp => ?_
        obtain ⟨b, n', h5⟩ := aliveV_at hal hinv
        obtain ⟨h9, h10⟩ := h3 a μ w hp
        rcases tail_inv (hp.get hm hx e1) h5 with ⟨rfl, A, h6⟩ | ⟨b', cap, rfl, h6, h7, h8⟩
        · have : k = 0 := by omega
          subst this
          have : l = 0 := by omega
          subst this
          refine ⟨_, run a w A 0 0 _ h6 (run_cut ht hn w A 0 0 0 0 _ _ h9 h10 (fun _ => rfl) (fun _ => rfl) (Nat.le_refl _) (Nat.le_refl _)), ?_⟩
          exact .tail0 r g _ n' _ _ _ h5
        · refine ⟨_, run a w _ len cap _ h6 (run_cut ht hn w _ _ _ l k _ _ h9 h10 (fun e => h3' (by simpa using e)) (fun e => h4 (by simpa using e)) hlk (by omega)), ?_⟩
          by_cases e5 : cap = l
          · rw [if_pos e5, show k - l = 0 by omega, show cap - l = 0 by omega]
            exact .tail0 r g _ n' _ _ _ h5
          · rw [if_neg e5]
            simp only [Option.map_some, add_none]
            have e6 : off * sz' + l * n = (off + l) * sz' := by
              rcases hsz with rfl | rfl
              · simp
              · rw [Nat.add_mul]
            rw [e6]
            exact .tail r g _ n' b' (off + l) (k - l) (cap - l) h5 (by omega) (by rw [show off + l + (cap - l) = off + cap by omega]; exact h8)
      split at h
      · rename_i k l e2 e3
        obtain ⟨xl, r1, rfl, h4, h5⟩ := bnd_some hh e3
        have h3 := bnd_none hl e2
        subst h3
        obtain ⟨⟨h6, h7⟩, h⟩ := h
        refine cutt 0 l.toNat (Nat.zero_le _) (by omega) (.inl rfl) (fun a μ w hp => ⟨fun v hv => by simp at hv, fun v hv => ?_⟩) (fun _ => rfl) (fun e => by cases e) (by simpa using h)
        have h8 := (hp.get (by simp [ho, Op.operands]) h4 h5).int_inv
        simp only [Option.map_some, Option.some.injEq, h8] at hv
        subst hv
        exact ⟨k, by rw [Int.toNat_of_nonneg h6]⟩
      · rename_i e2 e3
        have h2 := bnd_none hl e2
        have h3 := bnd_none hh e3
        subst h2; subst h3
        exact cutt 0 len (Nat.zero_le _) (Nat.le_refl _) (.inl rfl) (fun a μ w hp => ⟨fun v hv => by simp at hv, fun v hv => by simp at hv⟩) (fun _ => rfl) (fun _ => rfl) (by simpa using h)
      · rename_i k l e2 e3
        obtain ⟨xl, r1, rfl, h4, h5⟩ := bnd_some hl e2
        have h3 := bnd_none hh e3
        subst h3
        obtain ⟨rfl, ⟨h6, h7⟩, h⟩ := h
        refine cutt l.toNat len (by omega) (Nat.le_refl _) (.inr rfl) (fun a μ w hp => ⟨fun v hv => ?_, fun v hv => by simp at hv⟩) (fun e => by cases e) (fun _ => rfl) h
        have h8 := (hp.get (by simp [ho, Op.operands]) h4 h5).int_inv
        simp only [Option.map_some, Option.some.injEq, h8] at hv
        subst hv
        exact ⟨k, by rw [Int.toNat_of_nonneg h6]⟩
      · exact h.elim
    · exact h.elim

end ops
end Go.Proofs.YtgdimfogijfmiaaDoor.AD

namespace Go.Proofs.YtgdimfogijfmiaaDoor.AD
set_option linter.unusedVariables false

section ops
variable {P : Program} {o : Oper} {fr : FR} {ba lo : List Ob} {K : AV → List Ob → List Ob → Prop} {d : Bool}

theorem s_lenS {x : Operand} {rx : Rv} {t : TypeId} {ats : Array TypeId} (ho : o.op = .call { callee := .builtin .len, args := #[x], argTypes := #[t] }) (ht : P.underlying t = some .string) (hx : rv x = some rx)
    (h : opV P d (.lenS rx) fr ba lo K) : Sound1 P o fr ba lo K := by
  have hm : x ∈ o.op.operands.toList := by simp [ho, Op.operands, Call.operands]
  simp only [opV, evK_eq] at h
  split at h
  · rename_i s e1
    refine .quiet _ h fun μ w a hi hp => ⟨_, ?_, VA.int' _ _ _ _⟩
    simp [execOp, ho, resolve, invoke, builtin, (hp.get hm hx e1).str_inv, Builtin.len_, run_underlying ht, goInt]
  · exact h.elim

theorem s_len {x : Operand} {rx : Rv} {t e : TypeId} (ho : o.op = .call { callee := .builtin .len, args := #[x], argTypes := #[t] }) (ht : P.underlying t = some (.slice e)) (hx : rv x = some rx)
    (h : opV P d (.len rx) fr ba lo K) : Sound1 P o fr ba lo K := by
  have hm : x ∈ o.op.operands.toList := by simp [ho, Op.operands, Call.operands]
  simp only [opV, evK_eq] at h
  have run : ∀ (a : Act) (w : World) (A : Option Addr) (n c : Nat), a.eval x = .slice A n c → (execOp a.eval o).run P w = .ok (.value (.int .i64 n)) w := fun a w A n c h1 => by
    simp [execOp, ho, resolve, invoke, builtin, h1, Builtin.len_, run_underlying ht, goInt]
  split at h
  · rename_i e1
    refine .quiet _ h fun μ w a hi hp => ?_
    have h1 := (hp.get hm hx e1).pv
    generalize hv : a.eval x = v at h1
    cases h1
    exact ⟨_, run a w none 0 0 hv, VA.int' _ _ _ _⟩
  · rename_i e1
    refine .quiet _ h fun μ w a hi hp => ?_
    have h1 := (hp.get hm hx e1).pv
    generalize hv : a.eval x = v at h1
    cases h1
    exact ⟨_, run a w _ 0 _ hv, VA.int' _ _ _ _⟩
  · rename_i e1
    refine .quiet _ h fun μ w a hi hp => ?_
    have h1 := (hp.get hm hx e1).pv
    generalize hv : a.eval x = v at h1
    cases h1
    exact ⟨_, run a w _ 0 _ hv, VA.int' _ _ _ _⟩
  · rename_i r g sz off len e1
    obtain ⟨hal, h⟩ := h
    refine .quiet _ h fun μ w a hi hp => ?_
    obtain ⟨b, n', h5⟩ := aliveV_at hal hi
    rcases tail_inv (hp.get hm hx e1) h5 with ⟨rfl, A, h6⟩ | ⟨b', cap, rfl, h6, h7, h8⟩
    · exact ⟨_, run a w _ 0 0 h6, VA.int' _ _ _ _⟩
    · exact ⟨_, run a w _ _ _ h6, VA.int' _ _ _ _⟩
  · rename_i sz es e1
    refine .quiet _ h fun μ w a hi hp => ?_
    obtain ⟨A, c, h1, _⟩ := (hp.get hm hx e1).pv.list_row
    exact ⟨_, run a w A _ c h1, VA.int' _ _ _ _⟩
  · rename_i sz es sp e1
    refine .quiet _ h fun μ w a hi hp => ?_
    obtain ⟨b, off, c, h1, _⟩ := (hp.get hm hx e1).pv.lent_row
    exact ⟨_, run a w _ _ c h1, VA.int' _ _ _ _⟩
  · rename_i r g sz len e1
    obtain ⟨hal, h⟩ := h
    refine .quiet _ h fun μ w a hi hp => ?_
    obtain ⟨b, n', h5⟩ := aliveV_at hal hi
    rcases view_inv (hp.get hm hx e1) h5 with ⟨rfl, h6, rfl⟩ | ⟨b', cap, rfl, h6, h7, h8⟩
    · exact ⟨_, run a w none 0 0 h6, VA.int' _ _ _ _⟩
    · exact ⟨_, run a w _ _ _ h6, VA.int' _ _ _ _⟩
  · exact h.elim

theorem run_eql_slice {t e : TypeId} (ht : P.underlying t = some (.slice e)) (w : World) (neg : Bool) (A : Option Addr) (n c : Nat) :
    (Go.binOp (if neg then .neq else .eql) t (.slice A n c) (.slice none 0 0)).run P w = .ok (.bool (match neg with | true => !A.isNone | false => A.isNone)) w := by
  have h0 : ∀ d, (Op.equalIn (d + 1) t (.slice A n c) (.slice none 0 0)).run P w = .ok A.isNone w := fun d => by
    cases A <;> simp [Op.equalIn, run_underlying ht]
  have h : (Op.equal t (.slice A n c) (.slice none 0 0)).run P w = .ok A.isNone w := h0 9999
  cases neg <;> simp [Go.binOp, h]
theorem s_isNilS {neg : Bool} {op : BinOp} {t yt e : TypeId} {x y : Operand} {rx : Rv} (ho : o.op = .binOp op t x y yt) (hop : op = if neg then .neq else .eql) (ht : P.underlying t = some (.slice e)) (hx : rv x = some rx) (hy : rv y = some (.v (.p .nils))) (h : opV P d (.isNilS neg rx) fr ba lo K) : Sound1 P o fr ba lo K := by
  have hm : x ∈ o.op.operands.toList := by simp [ho, Op.operands]
  simp only [opV, evK_eq] at h
  have guard : ∀ (A : Option Addr) (n c : Nat) (w : World), (eqGuard op t x y (.slice A n c) (.slice none 0 0)).run P w = .ok () w := by
    intro A n c w
    unfold eqGuard
    cases op <;> rfl
  have main : ∀ (a : Act) (μ : List MI) (w : World) (A : Option Addr) (n c : Nat) (q : Bool), Opnds o a μ w ba fr → a.eval x = .slice A n c → A.isNone = q → (execOp a.eval o).run P w = .ok (.value (.bool (match neg with | true => !q | false => q))) w := fun a μ w A n c q hp h1 hq => by
    have h2 : a.eval y = .slice none 0 0 := by
      have := (hp.get (by simp [ho, Op.operands]) hy rfl).pv
      generalize a.eval y = v at this
      cases this; rfl
    subst hq
    simp only [execOp, ho, Sem.run_bind, h1, h2]
    rw [guard]
    simp only [Result.andThen_ok, hop, run_eql_slice ht w neg A n c]
    cases neg <;> rfl
  split at h
  · rename_i e1
    refine .quiet _ h fun μ w a hi hp => ?_
    have h1 := (hp.get hm hx e1).pv
    generalize hv : a.eval x = v at h1
    cases h1
    exact ⟨_, main a μ w _ _ _ true hp hv rfl, by cases neg <;> exact VA.bool' _ _ _⟩
  · rename_i e1
    refine .quiet _ h fun μ w a hi hp => ?_
    have h1 := (hp.get hm hx e1).pv
    generalize hv : a.eval x = v at h1
    cases h1
    exact ⟨_, main a μ w _ _ _ false hp hv rfl, by cases neg <;> exact VA.bool' _ _ _⟩
  · rename_i sz y0 r0 e1
    refine .quiet _ h fun μ w a hi hp => ?_
    obtain ⟨A, c, h1, h2, h3, h4, h5⟩ := (hp.get hm hx e1).pv.list_row
    have hA : A.isNone = false := by
      cases A with
      | none => have := h4 rfl; simp at h2; omega
      | some _ => rfl
    exact ⟨_, main a μ w _ _ _ false hp h1 hA, by cases neg <;> exact VA.bool' _ _ _⟩
  · rename_i sz es sp e1
    refine .quiet _ h fun μ w a hi hp => ?_
    obtain ⟨b, off, c, h1, _⟩ := (hp.get hm hx e1).pv.lent_row
    exact ⟨_, main a μ w _ _ _ false hp h1 rfl, by cases neg <;> exact VA.bool' _ _ _⟩
  · rename_i r g sz n e1
    obtain ⟨hal, h⟩ := h
    refine .quiet _ h fun μ w a hi hp => ?_
    obtain ⟨b, n', h5⟩ := aliveV_at hal hi
    rcases view_inv (hp.get hm hx e1) h5 with ⟨rfl, h6, h7⟩ | ⟨b', cap, rfl, h6, h7, h8⟩
    · omega
    · exact ⟨_, main a μ w _ _ _ false hp h6 rfl, by cases neg <;> exact VA.bool' _ _ _⟩
  · exact h.elim

theorem s_ext {x : Operand} {i : Nat} {rx : Rv} (ho : o.op = .extract x i) (hx : rv x = some rx) (h : opV P d (.ext rx i) fr ba lo K) : Sound1 P o fr ba lo K := by
  have hm : x ∈ o.op.operands.toList := by simp [ho, Op.operands]
  simp only [opV, evK_eq] at h
  split at h
  · rename_i vs e1
    obtain ⟨e, he, hk⟩ := atK_out _ _ _ h
    refine .quiet _ hk fun μ w a hi hp => ?_
    have h1 := (hp.get hm hx e1).pv
    generalize hv : a.eval x = v at h1
    cases h1 with
    | tup xs cs h2 h3 =>
      have h4 : i < xs.size := by rw [h2]; exact get_lt he
      refine ⟨xs[i], ?_, .p _ _ (h3 i _ _ (Array.getElem?_eq_getElem h4) he)⟩
      simp [execOp, ho, hv, Instr.extract, h4]
  · rename_i vs e1
    obtain ⟨e, he, hk⟩ := atK_out _ _ _ h
    refine .quiet _ hk fun μ w a hi hp => ?_
    have h1 := hp.get hm hx e1
    generalize hv : a.eval x = v at h1
    cases h1 with
    | tup xs cs h2 h3 =>
      have h4 : i < xs.size := by rw [h2]; exact get_lt he
      refine ⟨xs[i], ?_, h3 i _ _ (Array.getElem?_eq_getElem h4) he⟩
      simp [execOp, ho, hv, Instr.extract, h4]
  · exact h.elim

/-- Operands in a row. -/
theorem rvs_sound (fr : FR) : ∀ {l : List Operand} {rs : List Rv}, rvs l = some rs → ∀ {Γ : Ctx} {w : World} {a : Act}, (∀ x r, x ∈ l → rv x = some r → VA Γ w (a.eval x) (evF r fr)) →
    l.length = rs.length ∧ ∀ (j : Nat) (x : Value) (c : AV), (l.map a.eval)[j]? = some x → (rs.map fun r => evF r fr)[j]? = some c → VA Γ w x c
  | [], rs, h, Γ, w, a, hx => by
    cases h
    exact ⟨rfl, fun j x c h => by simp at h⟩
  | y :: l, rs, h, Γ, w, a, hx => by
    simp only [rvs] at h
    split at h
    · rename_i c cs h1 h2
      cases h
      obtain ⟨h3, h4⟩ := rvs_sound fr (a := a) (w := w) (Γ := Γ) h2 (fun x r hm hr => hx x r (List.mem_cons_of_mem _ hm) hr)
      refine ⟨by simp [h3], fun j x c' hj hc => ?_⟩
      cases j with
      | zero =>
        simp at hj hc
        subst hj; subst hc
        exact hx y c (by simp) h1
      | succ j => exact h4 j x c' (by simpa using hj) (by simpa using hc)
    · cases h

theorem s_mkfn {f : Fn} {first cap : Array Operand} {rf rc : List Rv} (ho : o.op = .makeFunc f first cap) (h1 : rvs first.toList = some rf) (h2 : rvs cap.toList = some rc) (h : opV P d (.mkfn f rf rc) fr ba lo K) : Sound1 P o fr ba lo K := by
  simp only [opV, evsK_eq] at h
  have run : ∀ (a : Act) (w : World), (execOp a.eval o).run P w = .ok (.value (.func f (first.map a.eval) (cap.map a.eval))) w := fun a w => by simp [execOp, ho, Instr.makeFunc]
  have key : ∀ {μ : List MI} {w : World} {a : Act}, Opnds o a μ w ba fr → (first.size = rf.length ∧ ∀ (j : Nat) (x : Value) (c : AV), (first.map a.eval)[j]? = some x → (rf.map fun r => evF r fr)[j]? = some c → VA ⟨blocks μ, ba.length, μ⟩ w x c) ∧
      (cap.size = rc.length ∧ ∀ (j : Nat) (x : Value) (c : AV), (cap.map a.eval)[j]? = some x → (rc.map fun r => evF r fr)[j]? = some c → VA ⟨blocks μ, ba.length, μ⟩ w x c) := fun {μ w a} hp => by
    obtain ⟨a1, a2⟩ := rvs_sound fr (a := a) (w := w) (Γ := ⟨blocks μ, ba.length, μ⟩) h1 (fun x r hm hr => hp x r (by simp [ho, Op.operands]; exact .inl (by simpa using hm)) hr)
    obtain ⟨b1, b2⟩ := rvs_sound fr (a := a) (w := w) (Γ := ⟨blocks μ, ba.length, μ⟩) h2 (fun x r hm hr => hp x r (by simp [ho, Op.operands]; exact .inr (by simpa using hm)) hr)
    exact ⟨⟨by simpa using a1, fun j x c hj hc => a2 j x c (by simpa using hj) hc⟩, ⟨by simpa using b1, fun j x c hj hc => b2 j x c (by simpa using hj) hc⟩⟩
  split at h
  · rename_i e1 e2
    refine .quiet _ h fun μ w a hi hp => ⟨_, run a w, ?_⟩
    obtain ⟨⟨k1, _⟩, ⟨k2, _⟩⟩ := key hp
    have f1 : first = #[] := Array.eq_empty_of_size_eq_zero (by rw [k1]; simpa using congrArg List.length e1)
    have f2 : cap = #[] := Array.eq_empty_of_size_eq_zero (by rw [k2]; simpa using congrArg List.length e2)
    subst f1; subst f2
    have e : (Value.func f ((#[] : Array Operand).map a.eval) ((#[] : Array Operand).map a.eval)) = .func f #[] #[] := by simp
    rw [e]
    exact .p _ _ (.fn f)
  · refine .quiet _ h fun μ w a hi hp => ⟨_, run a w, ?_⟩
    obtain ⟨⟨k1, k2⟩, ⟨k3, k4⟩⟩ := key hp
    exact .clos f _ _ _ _ (by simpa using k1) (by simpa using k3) k2 k4

theorem s_max2 {x y : Operand} {rx ry : Rv} {ats : Array TypeId} (ho : o.op = .call { callee := .builtin .max, args := #[x, y], argTypes := ats }) (hx : rv x = some rx) (hy : rv y = some ry) (h : opV P d (.max2 rx ry) fr ba lo K) : Sound1 P o fr ba lo K := by
  have hm : x ∈ o.op.operands.toList := by simp [ho, Op.operands, Call.operands]
  have hmy : y ∈ o.op.operands.toList := by simp [ho, Op.operands, Call.operands]
  simp only [opV, evK_eq] at h
  split at h
  · rename_i k a j b e1 e2
    obtain ⟨rfl, h5⟩ := kindK_out h
    refine .quiet _ h5 fun μ w act hi hp => ⟨_, ?_, VA.int' _ _ _ _⟩
    have e3 := (hp.get hm hx e1).int_inv
    have e4 := (hp.get hmy hy e2).int_inv
    have hrun := run_max_int2 (P := P) w ats o.type k k a b
    simp only [execOp, ho, resolve, invoke, builtin]
    simp [e3, e4, hrun]
  · exact h.elim
theorem s_min2 {x y : Operand} {rx ry : Rv} {ats : Array TypeId} (ho : o.op = .call { callee := .builtin .min, args := #[x, y], argTypes := ats }) (hx : rv x = some rx) (hy : rv y = some ry) (h : opV P d (.min2 rx ry) fr ba lo K) : Sound1 P o fr ba lo K := by
  have hm : x ∈ o.op.operands.toList := by simp [ho, Op.operands, Call.operands]
  have hmy : y ∈ o.op.operands.toList := by simp [ho, Op.operands, Call.operands]
  simp only [opV, evK_eq] at h
  split at h
  · rename_i k a j b e1 e2
    obtain ⟨rfl, h5⟩ := kindK_out h
    refine .quiet _ h5 fun μ w act hi hp => ⟨_, ?_, VA.int' _ _ _ _⟩
    have e3 := (hp.get hm hx e1).int_inv
    have e4 := (hp.get hmy hy e2).int_inv
    have hrun := run_min_int2 (P := P) w ats o.type k k a b
    simp [execOp, ho, resolve, invoke, builtin, e3, e4, hrun]
  · exact h.elim

/-! #### bytes and texts -/

theorem byteInts_length (s : ByteArray) : (byteInts s).length = s.size := by simp [byteInts]

theorem intBytes_out : ∀ {ys : List PV} {l : List UInt8}, intBytes ys = some l → ∃ ns : List Int, ys = ns.map (PV.int .u8) ∧ l = ns.map fun n => UInt8.ofNat n.toNat
  | [], l, h => by cases h; exact ⟨[], rfl, rfl⟩
  | y :: r, l, h => by
    unfold intBytes at h
    split at h
    · rename_i e; cases e
    · rename_i n r' e
      cases e
      obtain ⟨l', h1, rfl⟩ := Option.map_eq_some_iff.1 h
      obtain ⟨ns, rfl, rfl⟩ := intBytes_out h1
      exact ⟨n :: ns, rfl, rfl⟩
    · cases h

theorem RowOf.ints {M : Nat → Prop} {w : World} {f : Nat → Option Value} {ns : List Int} (h : RowOf M w 1 f (ns.map (PV.int .u8))) (j : Nat) (v : Value) (hj : (ns.map (Value.int .u8))[j]? = some v) : f j = some v := by
  have hl : j < ns.length := by have := get_lt hj; simpa using this
  obtain ⟨c, h1, h2, h3⟩ := h.get (j := j) (e := .int .u8 ns[j]) (by simp [hl])
  cases h3
  have h4 : f (j * 1 + 0) = some (Value.int .u8 ns[j]) := (h2 0 _ rfl).2
  rw [Nat.mul_one, Nat.add_zero] at h4
  rw [h4]
  simp [hl] at hj
  rw [hj]

/-- What a list holds, as it lies. -/
def ContV (P : Program) (sz : Nat) (y : AV) (ba lo : List Ob) (ys : List PV) : Prop :=
  ∀ (μ : List MI) (w : World) (v : Value), Inv μ w ba lo → VA ⟨blocks μ, ba.length, μ⟩ w v y → ∃ A c, v = .slice A ys.length c ∧ RowOf (blocks μ) w sz (cellsAt w A) ys ∧ (A = none → ys = []) ∧ ∀ a, A = some a → ys ≠ [] → a.spot = none

theorem contK_out {sz : Nat} {y : AV} {k : List PV → Prop} (h : contK sz y ba lo k) : ∃ ys, k ys ∧ ContV P sz y ba lo ys := by
  unfold contK at h
  split at h
  · refine ⟨[], h, fun μ w v hi hv => ?_⟩
    have := hv.pv
    cases this
    exact ⟨none, 0, rfl, RowOf.nil, fun _ => rfl, fun a h _ => by cases h⟩
  · refine ⟨[], h, fun μ w v hi hv => ?_⟩
    have := hv.pv
    cases this with
    | zer A cap => exact ⟨some A, cap, rfl, RowOf.nil, fun _ => rfl, fun a _ he => absurd rfl he⟩
  · refine ⟨[], h, fun μ w v hi hv => ?_⟩
    have := hv.pv
    cases this with
    | emp A => exact ⟨A, 0, rfl, RowOf.nil, fun _ => rfl, fun a _ he => absurd rfl he⟩
  · rename_i sz' ys
    obtain ⟨rfl, h⟩ := h
    refine ⟨ys, h, fun μ w v hi hv => ?_⟩
    obtain ⟨A, c, h1, h2, h3, h4, h5⟩ := hv.pv.list_row
    exact ⟨A, c, h1, h3, fun e => List.length_eq_zero_iff.1 (by have := h4 e; omega), fun a e h => (h5 a e h).1⟩
  · rename_i sz' ys sp
    obtain ⟨rfl, h⟩ := h
    refine ⟨ys, h, fun μ w v hi hv => ?_⟩
    obtain ⟨b, off, c, h1, h2, h3, h4, h5⟩ := hv.pv.lent_row
    have := h3.take ys.length
    rw [List.take_left] at this
    exact ⟨_, c, h1, this, fun e => (by cases e), fun a e _ => (by cases e; rfl)⟩
  · rename_i m g sz' len
    obtain ⟨o', ho', h⟩ := atK_out _ _ _ h
    split at h
    · rename_i g' sz'' es
      obtain ⟨⟨rfl, rfl, rfl, hlen⟩, ys, rfl, h⟩ := h
      refine ⟨_, h, fun μ w v hi hv => ?_⟩
      obtain ⟨mi, h1, h2⟩ := hi.at_l ho'
      rcases h2.row with ⟨n', rfl, rfl⟩ | ⟨b, xs, t', rfl, h3, h4, h5⟩
      · rcases view_inv hv h1 with ⟨_, rfl, rfl⟩ | ⟨b', cap, e, _⟩
        · exact ⟨none, 0, by simp, by simpa using RowOf.nil, fun _ => by simp, fun a e => by cases e⟩
        · cases e
      · rcases view_inv hv h1 with ⟨e, _, _⟩ | ⟨b', cap, e, rfl, h6, h7⟩
        · cases e
        · cases e
          refine ⟨some ⟨b, 0, none⟩, cap, by rw [List.length_take, Nat.min_eq_left hlen], (row_at h3 h5).take len, fun e => (by cases e), fun a e _ => (by cases e; rfl)⟩
    · exact h.elim
  · rename_i id g sz' len
    obtain ⟨ob, ho', h⟩ := atK_out _ _ _ h
    cases ob <;> first | exact (show False from h).elim | skip
    rename_i g' sz'' es
    obtain ⟨⟨rfl, rfl, rfl, hlen⟩, ys, rfl, h⟩ := h
    refine ⟨_, h, fun μ w v hi hv => ?_⟩
    obtain ⟨mi, h1, h2⟩ := hi.at_b ho'
    rcases h2.of_take.row with ⟨n', rfl, rfl⟩ | ⟨b, xs, t', rfl, h3, h4, h5⟩
    · rcases view_inv hv h1 with ⟨_, rfl, rfl⟩ | ⟨b', cap, e, _⟩
      · exact ⟨none, 0, by simp, by simpa using RowOf.nil, fun _ => by simp, fun a e => by cases e⟩
      · cases e
    · rcases view_inv hv h1 with ⟨e, _, _⟩ | ⟨b', cap, e, rfl, h6, h7⟩
      · cases e
      · cases e
        refine ⟨some ⟨b, 0, none⟩, cap, by rw [List.length_take, Nat.min_eq_left hlen], (row_at h3 h5).take len, fun e => (by cases e), fun a e _ => (by cases e; rfl)⟩
  · exact h.elim

theorem contK_mono {sz : Nat} {y : AV} {k k' : List PV → Prop} (h : contK sz y ba lo k) (hk : ∀ ys, k ys → k' ys) : contK sz y ba lo k' := by
  unfold contK at h ⊢
  split at h
  · exact hk _ h
  · exact hk _ h
  · exact hk _ h
  · exact ⟨h.1, hk _ h.2⟩
  · exact ⟨h.1, hk _ h.2⟩
  · obtain ⟨o', ho', h⟩ := atK_out _ _ _ h
    refine atK_in _ _ _ _ ho' ?_
    cases o' <;> first | exact (show False from h).elim | skip
    obtain ⟨h1, ys, h2, h3⟩ := h
    exact ⟨h1, ys, h2, hk _ h3⟩
  · obtain ⟨o', ho', h⟩ := atK_out _ _ _ h
    refine atK_in _ _ _ _ ho' ?_
    cases o' <;> first | exact (show False from h).elim | skip
    obtain ⟨h1, ys, h2, h3⟩ := h
    exact ⟨h1, ys, h2, hk _ h3⟩
  · exact h.elim

theorem s_ofBytes {s t e : TypeId} {x : Operand} {rx : Rv} (ho : o.op = .convert s t x) (hs : P.underlying s = some (.slice e)) (he : P.underlying e = some (.int .u8)) (ht : P.underlying t = some .string) (hx : rv x = some rx) (h : opV P d (.ofBytes rx) fr ba lo K) : Sound1 P o fr ba lo K := by
  have hm : x ∈ o.op.operands.toList := by simp [ho, Op.operands]
  simp only [opV, evK_eq] at h
  obtain ⟨ys, ⟨l, hl, hk⟩, hc⟩ := contK_out (P := P) h
  obtain ⟨ns, rfl, rfl⟩ := intBytes_out hl
  refine .quiet _ hk fun μ w a hi hp => ⟨_, ?_, VA.str' _ _ _⟩
  obtain ⟨A, c, h1, h2, h3, h4⟩ := hc μ w _ hi (hp.get hm hx rfl)
  simp only [execOp, ho, Sem.run_bind, h1]
  rw [run_convert_bytes_string w s t e A _ c hs he ht]
  cases A with
  | none =>
    have := h3 rfl
    have e0 : ns = [] := by simpa using this
    subst e0
    rfl
  | some ad =>
    have hload := run_loadCells_list (P := P) w ad (ns.map (Value.int .u8)) (fun j v hj => h2.ints j v hj)
    have := run_bytesToString (P := P) w ad (ns.map (PV.int .u8)).length c ns (by simpa using hload)
    rw [this]
    simp only [Result.andThen_ok]
    have gen : ∀ (l : List Int) (r : ByteArray), l.foldl (fun r n => r.push (UInt8.ofNat n.toNat)) r = ⟨r.data ++ (l.map fun n => UInt8.ofNat n.toNat).toArray⟩ := by
      intro l
      induction l with
      | nil => intro r; simp
      | cons n l ih => intro r; simp only [List.foldl_cons, ih]; simp [ByteArray.push]
    rw [gen]
    simp

theorem s_toBytes {s t e : TypeId} {x : Operand} {rx : Rv} (ho : o.op = .convert s t x) (hs : P.underlying s = some .string) (ht : P.underlying t = some (.slice e)) (he : P.underlying e = some (.int .u8)) (hx : rv x = some rx) (h : opV P d (.toBytes rx) fr ba lo K) : Sound1 P o fr ba lo K := by
  have hm : x ∈ o.op.operands.toList := by simp [ho, Op.operands]
  simp only [opV, evK_eq] at h
  split at h
  · rename_i s' e1
    refine ⟨_, ba, lo, h, fun μ w a hi hp => ?_⟩
    have h1 := run_bytes_of_string (P := P) w s t e s' hs ht he
    have hC : s'.size ≤ grownCap w s'.size 0 e := by unfold grownCap Question.cut; simp
    generalize grownCap w s'.size 0 e = C at h1 hC
    have hle : Le μ w μ (w.drew.alloc (.cells (bytesRow s' (C)) e ((bytesRow s' (C)).size, (bytesRow s' (C)).size + 1))) :=
      (le_drew μ w).trans (le_alloc μ (hi.grow (le_drew μ w) fun b hb => rfl) _)
    refine ⟨.slice (some ⟨w.heap.size, 0, none⟩) s'.size (C), _, μ, .inl ?_, ?_, hi.grow hle fun b hb => ?_, hle, rfl⟩
    · simp only [execOp, ho, Sem.run_bind, (hp.get hm hx e1).str_inv, h1, Result.andThen_ok]; rfl
    · rw [← byteInts_length s']
      have hnew := heap_alloc_new w.drew (.cells (bytesRow s' (C)) e ((bytesRow s' (C)).size, (bytesRow s' (C)).size + 1))
      refine .p _ _ (VP.of_row ?_ (fun hb => ?_) (by simp) ?_)
      · refine ⟨fun j => (byteInts s')[j]?.elim undef fun e => match e with | .int k n => .int k n | _ => undef, fun j e' he' => ?_, fun j e' he' i x hx => ?_, fun j e' he' => ?_⟩
        · simp only [he', Option.elim_some]
          simp only [byteInts, List.getElem?_map] at he'
          obtain ⟨b, _, rfl⟩ := Option.map_eq_some_iff.1 he'
          rfl
        · simp only [he', Option.elim_some] at hx
          have hj := get_lt he'
          rw [byteInts_length] at hj
          simp only [byteInts, List.getElem?_map] at he'
          obtain ⟨b, hb, rfl⟩ := Option.map_eq_some_iff.1 he'
          cases i with
          | zero =>
            simp [Value.cells] at hx
            subst hx
            refine ⟨rfl, ?_⟩
            simp only [cellsAt, add_none, Nat.zero_add, Nat.mul_one, Nat.add_zero]
            rw [show w.heap.size = w.drew.heap.size from rfl, cell_of_row _ _ _ _ _ _ hnew, bytesRow_at s' _ j hj]
            have := (List.getElem?_eq_some_iff.1 hb).2
            simp at this
            rw [this]
          | succ i => simp [Value.cells] at hx
        · simp only [he', Option.elim_some]
          simp only [byteInts, List.getElem?_map] at he'
          obtain ⟨b, _, rfl⟩ := Option.map_eq_some_iff.1 he'
          exact .int _ _
      · have := hi.block_lt hb
        simp at this
      · rw [byteInts_length]; exact hC
    · exact heap_alloc_old w.drew _ b hb
  · exact h.elim

end ops
end Go.Proofs.YtgdimfogijfmiaaDoor.AD

namespace Go.Proofs.YtgdimfogijfmiaaDoor.AD
set_option linter.unusedVariables false

section ops
variable {P : Program} {o : Oper} {fr : FR} {ba lo : List Ob} {K : AV → List Ob → List Ob → Prop} {d : Bool}

/-- A new block of cells as an object of the call's own. -/
theorem Inv.push_cells {μ : List MI} {w : World} (h : Inv μ w ba lo) (xs : Array Value) (t : TypeId) (cs : List AV) (hc : CellsV ⟨blocks μ, ba.length, μ⟩ w xs cs) (h1 : ∀ (j : Nat) (x : Value), xs[j]? = some x → x.oneCell' = true) :
    Inv (μ ++ [.cells w.heap.size]) (w.alloc (.cells xs t)) ba (lo ++ [.cells cs]) ∧ Le μ w (μ ++ [.cells w.heap.size]) (w.alloc (.cells xs t)) ∧
      Ctx.at ⟨blocks (μ ++ [.cells w.heap.size]), ba.length, μ ++ [.cells w.heap.size]⟩ (.l lo.length) = some (.cells w.heap.size) := by
  refine h.push (.cells w.heap.size) (.cells cs) (fun b hb => by cases hb; exact Nat.le_refl _) rfl rfl rfl (by simp) (fun b hb => heap_alloc_old w _ b hb) fun hle => ?_
  exact .cells _ xs t cs (heap_alloc_new w _) hc.1 fun j x c hx hcj => ⟨(hc.2 j x c hx hcj).mono hle.stays hle.above, h1 j x hx⟩

theorem s_box {t : TypeId} {x : Operand} {rx : Rv} (ho : o.op = .box t x) (hx : rv x = some rx) (h : opV P d (.box rx) fr ba lo K) : Sound1 P o fr ba lo K := by
  have hm : x ∈ o.op.operands.toList := by simp [ho, Op.operands]
  simp only [opV, evK_eq] at h
  obtain ⟨cs, h1, h2, h⟩ := cellsK_out h
  rw [pushK_eq] at h
  refine ⟨_, _, _, h, fun μ w a hi hp => ?_⟩
  have hv := (hp.get hm hx rfl).cells h1
  obtain ⟨h3, h4, h5⟩ := hi.push_cells (a.eval x).cells t cs hv fun j x hx => hv.one h2 j x hx
  exact ⟨.pointer (some ⟨w.heap.size, 0, none⟩), _, _, .inl (by simp [execOp, ho, Instr.box, newVar, newRow]), .ref _ _ _ h5, h3, h4, rfl⟩

theorem s_boxF {t : TypeId} {x : Operand} {rx : Rv} (ho : o.op = .box t x) (hx : rv x = some rx) (h : opV P d (.boxF rx) fr ba lo K) : Sound1 P o fr ba lo K := by
  have hm : x ∈ o.op.operands.toList := by simp [ho, Op.operands]
  simp only [opV, evK_eq] at h
  obtain ⟨cs, h1, h2, h⟩ := cellsK_out h
  rcases allPK_out _ _ _ h with ⟨ps, rfl, hk⟩ | h
  case inr => exact h.elim
  refine ⟨_, _, _, hk, fun μ w a hinv hp => ?_⟩
  have hv := (hp.get hm hx rfl).cells h1
  have hle := le_alloc μ hinv (.cells (a.eval x).cells t)
  refine ⟨.pointer (some ⟨w.heap.size, 0, none⟩), w.alloc (.cells (a.eval x).cells t), μ, .inl (by simp [execOp, ho, Instr.box, newVar, newRow]), .p _ _ ?_, hinv.grow hle fun b hb => heap_alloc_old w _ b hb, hle, rfl⟩
  have hsz : (a.eval x).cells.size = ps.length := by rw [hv.1, List.length_map]
  refine VP.of_pcells ⟨fun j => (a.eval x).cells.getD j undef, fun j e he => ?_⟩ (fun hb => Nat.lt_irrefl _ (hinv.block_lt hb)) (by simp)
  have hj : j < (a.eval x).cells.size := by rw [hsz]; exact get_lt he
  have e1 : (a.eval x).cells.getD j undef = (a.eval x).cells[j] := by simp [hj]
  simp only [e1]
  have q := hv.2 j (a.eval x).cells[j] (.p e) (Array.getElem?_eq_getElem hj) (by rw [List.getElem?_map, he]; rfl)
  refine ⟨hv.one h2 j _ (Array.getElem?_eq_getElem hj), ?_, q.pv.mono hle.stays⟩
  rw [cell_of_row _ _ _ _ t (0, 0) (heap_alloc_new w _), Nat.zero_add]
  exact Array.getElem?_eq_getElem hj

theorem s_alloc {t : TypeId} {i : TypeInfo} {z : Value} {cs : List PV} (ho : o.op = .alloc t) (hi : P.info? t = some i) (hz : i.zero = some z) (hc : absPs z.cells.toList = some cs) (h : opV P d (.alloc cs) fr ba lo K) : Sound1 P o fr ba lo K := by
  simp only [opV, upPK_eq, pushK_eq] at h
  refine ⟨_, _, _, h, fun μ w a hi' hp => ?_⟩
  obtain ⟨a1, a2, a3⟩ := absPs_sound hc (blocks μ) w
  obtain ⟨h3, h4, h5⟩ := hi'.push_cells z.cells t (cs.map AV.p) ⟨by simpa using a1, fun j x c hx hc => by
    rw [List.getElem?_map] at hc
    obtain ⟨p, hp, rfl⟩ := Option.map_eq_some_iff.1 hc
    exact .p _ _ (a2 j x p (by simpa using hx) hp)⟩ fun j x hx => a3 j x (by simpa using hx)
  exact ⟨.pointer (some ⟨w.heap.size, 0, none⟩), _, _, .inl (by simp [execOp, ho, Instr.alloc, newVar, newRow, zeroValue, typeInfo, hi, hz]), .ref _ _ _ h5, h3, h4, rfl⟩

/-! #### parts -/

theorem fill_one (place : Nat → Option (Nat × Nat)) (cells : Array Value) (i off n : Nat) (v : Value) (rest : List (Nat × Value)) (hp : place i = some (off, n)) (hv : v.cells.size = n) (hn : off + n ≤ cells.size) :
    ∃ arr : Array Value, Instr.fill place cells ((i, v) :: rest) = Instr.fill place arr rest ∧ arr.size = cells.size ∧ ∀ k, arr[k]? = if off ≤ k ∧ k < off + n then v.cells[k - off]? else cells[k]? := by
  obtain ⟨g1, g2⟩ := Great.foldl_set off v.cells.toList 0 cells
  refine ⟨(v.cells.toList.zipIdx 0).foldl (fun cs (x : Value × Nat) => cs.setIfInBounds (off + x.2) x.1) cells, ?_, g1, fun k => ?_⟩
  · conv => lhs; unfold Instr.fill
    simp only [hp, hv]
    rw [if_neg (by simp; omega)]
    rw [← Array.foldl_toList, Array.toList_zipIdx]
  · rw [g2 k]
    simp only [Nat.add_zero, Array.length_toList, hv]
    by_cases hk : off ≤ k ∧ k < off + n
    · rw [if_pos ⟨hk.1, hk.2, by omega⟩, if_pos hk]; simp
    · rw [if_neg (fun h => hk ⟨h.1, h.2.1⟩), if_neg hk]

theorem splice_get {α : Type} {off : Nat} {vs l : List α} (h : off + vs.length ≤ l.length) (k : Nat) : (l.take off ++ vs ++ l.drop (off + vs.length))[k]? = if off ≤ k ∧ k < off + vs.length then vs[k - off]? else l[k]? := by
  have h1 : (l.take off).length = off := by rw [List.length_take]; omega
  by_cases hk : k < off
  · rw [if_neg (by omega), List.append_assoc, List.getElem?_append_left (by omega), List.getElem?_take, if_pos hk]
  · by_cases hk2 : k < off + vs.length
    · rw [if_pos ⟨by omega, hk2⟩, List.append_assoc, List.getElem?_append_right (by omega), h1, List.getElem?_append_left (by omega)]
    · rw [if_neg (by omega), List.getElem?_append_right (by rw [List.length_append]; omega), List.length_append, h1, List.getElem?_drop]
      congr 1
      omega
theorem splice_len {α : Type} {off : Nat} {vs l : List α} (h : off + vs.length ≤ l.length) : (l.take off ++ vs ++ l.drop (off + vs.length)).length = l.length := by
  simp; omega

theorem partsK_eq : ∀ (l : List (Nat × Nat × Rv)) (fr : FR) (k : List (Nat × Nat × AV) → Prop), partsK l fr k = k (l.map fun x => (x.1, x.2.1, evF x.2.2 fr))
  | [], fr, k => rfl
  | (o, n, x) :: r, fr, k => by simp only [partsK, evK_eq, partsK_eq r, List.map_cons]

theorem fill_sound (place : Nat → Option (Nat × Nat)) : ∀ (ps : List (Nat × Nat × AV)) (cs : List AV) (k : List AV → Prop), fillK ps cs k → ∃ cs', k cs' ∧ ∀ (Γ : Ctx) (w : World) (cells : Array Value) (vs : List (Nat × Value)),
    CellsV Γ w cells cs → (∀ (j : Nat) (x : Value), cells[j]? = some x → x.oneCell' = true) → vs.length = ps.length →
    (∀ (j : Nat) (i : Nat) (v : Value) (o n : Nat) (a : AV), vs[j]? = some (i, v) → ps[j]? = some (o, n, a) → place i = some (o, n) ∧ VA Γ w v a) →
    ∃ cells', Instr.fill place cells vs = some cells' ∧ CellsV Γ w cells' cs' ∧ ∀ (j : Nat) (x : Value), cells'[j]? = some x → x.oneCell' = true
  | [], cs, k, h => ⟨cs, h, fun Γ w cells vs h1 h2 h3 h4 => by
      have : vs = [] := List.length_eq_zero_iff.1 h3
      subst this
      exact ⟨cells, rfl, h1, h2⟩⟩
  | (off, n, a) :: ps, cs, k, h => by
    simp only [fillK] at h
    obtain ⟨news, h1, h2, h⟩ := cellsK_out h
    cases hb : Nat.beq news.length n with
    | false => rw [hb] at h; exact h.elim
    | true =>
      rw [hb] at h
      have hn : news.length = n := Nat.eq_of_beq_eq_true hb
      simp only [cond_true] at h
      obtain ⟨h3, h⟩ := spliceK_out _ _ _ _ h
      obtain ⟨cs', hk, hl⟩ := fill_sound place ps _ k h
      refine ⟨cs', hk, fun Γ w cells vs g1 g2 g3 g4 => ?_⟩
      match vs, g3 with
      | (i, v) :: rest, g3 =>
        obtain ⟨p1, p2⟩ := g4 0 i v off n a rfl rfl
        have hv := p2.cells h1
        have hsz : v.cells.size = n := by rw [hv.1, hn]
        obtain ⟨arr, f1, f2, f3⟩ := fill_one place cells i off n v rest p1 hsz (by rw [g1.1, ← hn]; exact h3)
        have key : ∀ (j : Nat) (x : Value), arr[j]? = some x → (off ≤ j ∧ j < off + n ∧ v.cells[j - off]? = some x) ∨ (¬ (off ≤ j ∧ j < off + n) ∧ cells[j]? = some x) := fun j x hx => by
          rw [f3 j] at hx
          by_cases hj : off ≤ j ∧ j < off + n
          · rw [if_pos hj] at hx; exact .inl ⟨hj.1, hj.2, hx⟩
          · rw [if_neg hj] at hx; exact .inr ⟨hj, hx⟩
        obtain ⟨cells', q1, q2, q3⟩ := hl Γ w arr rest ⟨by rw [f2, g1.1, splice_len h3], fun j x c hx hc => by
            rw [splice_get h3, hn] at hc
            rcases key j x hx with ⟨k1, k2, k3⟩ | ⟨k1, k2⟩
            · rw [if_pos ⟨k1, k2⟩] at hc; exact hv.2 _ _ _ k3 hc
            · rw [if_neg k1] at hc; exact g1.2 _ _ _ k2 hc⟩ (fun j x hx => by
            rcases key j x hx with ⟨k1, k2, k3⟩ | ⟨k1, k2⟩
            · exact hv.one h2 _ _ k3
            · exact g2 _ _ k2) (by simpa using g3) (fun j i' v' o' n' a' e1 e2 => g4 (j + 1) i' v' o' n' a' (by simpa using e1) (by simpa using e2))
        exact ⟨cells', by rw [f1]; exact q1, q2, q3⟩

theorem structParts_out {places : List (Nat × Nat)} : ∀ {l : List (Nat × Operand)} {ps : List (Nat × Nat × Rv)}, structParts places l = some ps → l.length = ps.length ∧ ∀ (j i : Nat) (x : Operand) (o n : Nat) (r : Rv), l[j]? = some (i, x) → ps[j]? = some (o, n, r) → places[i]? = some (o, n) ∧ rv x = some r
  | [], ps, h => by cases h; exact ⟨rfl, fun j i x o n r h => by simp at h⟩
  | (i, x) :: l, ps, h => by
    simp only [structParts] at h
    split at h
    · rename_i o n v ps' h1 h2 h3
      cases h
      obtain ⟨a1, a2⟩ := structParts_out h3
      refine ⟨by simp [a1], fun j i' x' o' n' r e1 e2 => ?_⟩
      cases j with
      | zero => simp at e1 e2; obtain ⟨rfl, rfl⟩ := e1; obtain ⟨rfl, rfl, rfl⟩ := e2; exact ⟨h1, h2⟩
      | succ j => exact a2 j i' x' o' n' r (by simpa using e1) (by simpa using e2)
    · cases h
theorem arrayParts_out {size : Nat} : ∀ {l : List (Nat × Operand)} {ps : List (Nat × Nat × Rv)}, arrayParts size l = some ps → l.length = ps.length ∧ ∀ (j i : Nat) (x : Operand) (o n : Nat) (r : Rv), l[j]? = some (i, x) → ps[j]? = some (o, n, r) → o = i * size ∧ n = size ∧ rv x = some r
  | [], ps, h => by cases h; exact ⟨rfl, fun j i x o n r h => by simp at h⟩
  | (i, x) :: l, ps, h => by
    simp only [arrayParts] at h
    split at h
    · rename_i v ps' h1 h2
      cases h
      obtain ⟨a1, a2⟩ := arrayParts_out h2
      refine ⟨by simp [a1], fun j i' x' o' n' r e1 e2 => ?_⟩
      cases j with
      | zero => simp at e1 e2; obtain ⟨rfl, rfl⟩ := e1; obtain ⟨rfl, rfl, rfl⟩ := e2; exact ⟨rfl, rfl, h1⟩
      | succ j => exact a2 j i' x' o' n' r (by simpa using e1) (by simpa using e2)
    · cases h

theorem s_build {t : TypeId} {parts : Array (Nat × Operand)} {zs : List PV} {ps : List (Nat × Nat × Rv)} {i : TypeInfo} {z : Value} (ho : o.op = .build t parts) (hi : P.info? t = some i) (hz : i.zero = some z) (hzs : absPs z.cells.toList = some zs)
    (hk : (∃ fields places, P.underlying t = some (.struct fields) ∧ placesOf P fields = some places ∧ structParts places parts.toList = some ps) ∨ (∃ n e ie, P.underlying t = some (.array n e) ∧ P.info? e = some ie ∧ arrayParts ie.size parts.toList = some ps))
    (h : opV P d (.build zs ps) fr ba lo K) : Sound1 P o fr ba lo K := by
  simp only [opV, partsK_eq, upPK_eq] at h
  have mem : ∀ {j i' : Nat} {x : Operand}, parts.toList[j]? = some (i', x) → x ∈ o.op.operands.toList := fun {j i' x} hj => by
    rw [ho]
    simp only [Op.operands]
    exact List.mem_map.2 ⟨(i', x), List.mem_of_getElem? hj, rfl⟩
  have run : ∀ (a : Act) (w : World) (cells : Array Value), P.built t (parts.toList.map fun x => (x.1, a.eval x.2)) = some cells → (execOp a.eval o).run P w = .ok (.value (.agg cells)) w := fun a w cells hb => by
    have e : (parts.map fun x => (x.1, a.eval x.2)).toList = parts.toList.map fun x => (x.1, a.eval x.2) := by simp
    have hr := run_build (P := P) w t (parts.map fun x => (x.1, a.eval x.2)) cells (by rw [e]; exact hb)
    simp only [execOp, ho, Sem.run_bind]
    have e2 : (parts.map fun (i, x) => (i, a.eval x)) = parts.map fun x => (x.1, a.eval x.2) := rfl
    rw [e2, hr]
    rfl
  rcases hk with ⟨fields, places, hu, hpl, hst⟩ | ⟨n, e, ie, hu, hie, har⟩
  · obtain ⟨a1, a2⟩ := structParts_out hst
    obtain ⟨cs', h, hl⟩ := fill_sound (places.toArray[·]?) _ _ _ h
    obtain ⟨v, hv, hk⟩ := mkAggK_out h
    refine .quiet _ hk fun μ w a hinv hp => ?_
    obtain ⟨b1, b2, b3⟩ := absPs_sound hzs (blocks μ) w
    obtain ⟨cells, c1, c2, c3⟩ := hl ⟨blocks μ, ba.length, μ⟩ w z.cells (parts.toList.map fun x => (x.1, a.eval x.2)) ⟨by simpa using b1, fun j x c hx hc => by
        rw [List.getElem?_map] at hc
        obtain ⟨p, hp, rfl⟩ := Option.map_eq_some_iff.1 hc
        exact .p _ _ (b2 j x p (by simpa using hx) hp)⟩ (fun j x hx => b3 j x (by simpa using hx)) (by simpa using a1) (fun j i' v o' n' a' e1 e2 => by
        rw [List.getElem?_map] at e1 e2
        obtain ⟨⟨i1, x1⟩, f1, f2⟩ := Option.map_eq_some_iff.1 e1
        obtain ⟨⟨o1, n1, r1⟩, g1, g2⟩ := Option.map_eq_some_iff.1 e2
        cases f2; cases g2
        obtain ⟨k1, k2⟩ := a2 j _ _ _ _ _ f1 g1
        exact ⟨by simpa using k1, hp x1 r1 (mem f1) k2⟩)
    refine ⟨.agg cells, run a w cells ?_, VA.of_agg c2 c3 hv⟩
    unfold Program.built
    simp only [hi, hu, hz]
    have : fields.toList.mapM (fun f => (P.info? f.type).map fun i => (f.offset, i.size)) = some places := hpl
    simp only [this]
    exact c1
  · obtain ⟨a1, a2⟩ := arrayParts_out har
    obtain ⟨cs', h, hl⟩ := fill_sound (fun i => some (i * ie.size, ie.size)) _ _ _ h
    obtain ⟨v, hv, hk⟩ := mkAggK_out h
    refine .quiet _ hk fun μ w a hinv hp => ?_
    obtain ⟨b1, b2, b3⟩ := absPs_sound hzs (blocks μ) w
    obtain ⟨cells, c1, c2, c3⟩ := hl ⟨blocks μ, ba.length, μ⟩ w z.cells (parts.toList.map fun x => (x.1, a.eval x.2)) ⟨by simpa using b1, fun j x c hx hc => by
        rw [List.getElem?_map] at hc
        obtain ⟨p, hp, rfl⟩ := Option.map_eq_some_iff.1 hc
        exact .p _ _ (b2 j x p (by simpa using hx) hp)⟩ (fun j x hx => b3 j x (by simpa using hx)) (by simpa using a1) (fun j i' v o' n' a' e1 e2 => by
        rw [List.getElem?_map] at e1 e2
        obtain ⟨⟨i1, x1⟩, f1, f2⟩ := Option.map_eq_some_iff.1 e1
        obtain ⟨⟨o1, n1, r1⟩, g1, g2⟩ := Option.map_eq_some_iff.1 e2
        cases f2; cases g2
        obtain ⟨rfl, rfl, k2⟩ := a2 j _ _ _ _ _ f1 g1
        exact ⟨rfl, hp x1 r1 (mem f1) k2⟩)
    refine ⟨.agg cells, run a w cells ?_, VA.of_agg c2 c3 hv⟩
    unfold Program.built
    simp only [hi, hu, hz, hie]
    exact c1

theorem RowOf.set {M : Nat → Prop} {w : World} {sz : Nat} {f g : Nat → Option Value} {es : List PV} (h : RowOf M w sz f es) {i : Nat} {e : PV} {v : Value} (hv : VP M w v e) (hs : v.cells.size = sz) (h1 : ∀ (j : Nat) (x : Value), v.cells[j]? = some x → x.oneCell' = true)
    (hg : ∀ k, g k = if i * sz ≤ k ∧ k < i * sz + sz then v.cells[k - i * sz]? else f k) : RowOf M w sz g (es.set i e) := by
  obtain ⟨c, a1, a2, a3⟩ := h
  have key : ∀ (j : Nat) (e' : PV), (es.set i e)[j]? = some e' → (j = i ∧ e' = e) ∨ (j ≠ i ∧ es[j]? = some e') := fun j e' hj => by
    rw [List.getElem?_set] at hj
    by_cases hij : i = j
    · rw [if_pos hij] at hj
      split at hj
      · exact .inl ⟨hij.symm, (Option.some.inj hj).symm⟩
      · cases hj
    · rw [if_neg hij] at hj
      exact .inr ⟨fun h => hij h.symm, hj⟩
  refine ⟨fun j => if j = i then v else c j, fun j e' hj => ?_, fun j e' hj k x hx => ?_, fun j e' hj => ?_⟩
  · rcases key j e' hj with ⟨rfl, rfl⟩ | ⟨hne, hj⟩
    · simp only [if_true]; exact hs
    · simp only [if_neg hne]; exact a1 j e' hj
  · rcases key j e' hj with ⟨rfl, rfl⟩ | ⟨hne, hj⟩
    · simp only [if_true] at hx
      have := aget_lt hx
      refine ⟨h1 k x hx, ?_⟩
      rw [hg, if_pos (by omega), show j * sz + k - j * sz = k by omega]
      exact hx
    · simp only [if_neg hne] at hx
      have hk := aget_lt hx
      rw [a1 j e' hj] at hk
      have := a2 j e' hj k x hx
      refine ⟨this.1, ?_⟩
      rw [hg, if_neg ?_]
      · exact this.2
      · rintro ⟨g1, g2⟩
        rcases Nat.lt_or_gt_of_ne hne with hl | hl
        · have := Nat.mul_le_mul_right sz (show j + 1 ≤ i from hl)
          rw [Nat.add_mul, Nat.one_mul] at this
          omega
        · have := Nat.mul_le_mul_right sz (show i + 1 ≤ j from hl)
          rw [Nat.add_mul, Nat.one_mul] at this
          omega
  · rcases key j e' hj with ⟨rfl, rfl⟩ | ⟨hne, hj⟩
    · simp only [if_true]; exact hv
    · simp only [if_neg hne]; exact a3 j e' hj

theorem CellsP.oneCells {M : Nat → Prop} {w : World} {v : Value} {e : PV} {cs : List PV} (h : CellsP e cs) (hv : VP M w v e) (j : Nat) (x : Value) (hx : v.cells[j]? = some x) : x.oneCell' = true := by
  cases h with
  | agg cs => cases hv with | agg xs cs h1 h2 h3 => exact h3 j x hx
  | one e hs =>
    rw [cells_of_oneCell (hv.oneCell hs)] at hx
    cases j with
    | zero => simp at hx; subst hx; exact hv.oneCell hs
    | succ j => simp at hx

theorem lit_sound (sz : Nat) : ∀ (ps : List (Nat × Rv)) (es : List PV) (k : List PV → Prop), litK sz ps fr es k → ∃ es', k es' ∧ es'.length = es.length ∧ ∀ (Γ : Ctx) (w : World) (arr : Array Value) (vs : List (Nat × Value)),
    arr.size = es.length * sz → RowOf Γ.M w sz (fun k => arr[k]?) es → vs.length = ps.length → (∀ (j i : Nat) (v : Value) (i' : Nat) (r : Rv), vs[j]? = some (i, v) → ps[j]? = some (i', r) → i = i' ∧ VA Γ w v (evF r fr)) →
    ∃ arr', Instr.fill (fun i => some (i * sz, sz)) arr vs = some arr' ∧ arr'.size = arr.size ∧ RowOf Γ.M w sz (fun k => arr'[k]?) es'
  | [], es, k, h => ⟨es, h, rfl, fun Γ w arr vs h1 h2 h3 h4 => by
      have : vs = [] := List.length_eq_zero_iff.1 h3
      subst this
      exact ⟨arr, rfl, rfl, h2⟩⟩
  | (i, x) :: ps, es, k, h => by
    simp only [litK, evK_eq] at h
    split at h
    · rename_i e he
      obtain ⟨cs, hcs, h⟩ := cellsPK_out h
      cases hb : Nat.beq cs.length sz with
      | false => rw [hb] at h; exact h.elim
      | true =>
        rw [hb] at h
        have hn : cs.length = sz := Nat.eq_of_beq_eq_true hb
        simp only [cond_true] at h
        obtain ⟨hil, h⟩ := setAtK_out _ _ _ _ h
        obtain ⟨es', hk, hl, hs⟩ := lit_sound sz ps _ k h
        refine ⟨es', hk, by rw [hl, List.length_set], fun Γ w arr vs g1 g2 g3 g4 => ?_⟩
        match vs, g3 with
        | (i', v) :: rest, g3 =>
          obtain ⟨rfl, p2⟩ := g4 0 i' v i x rfl rfl
          rw [he] at p2
          have hv := p2.pv
          obtain ⟨q1, q2⟩ := hcs.cells hv
          have hsz : v.cells.size = sz := by rw [q1, hn]
          have hle : i' * sz + sz ≤ arr.size := by
            rw [g1]
            have := Nat.mul_le_mul_right sz (show i' + 1 ≤ es.length from hil)
            rw [Nat.add_mul, Nat.one_mul] at this
            exact this
          obtain ⟨arr', f1, f2, f3⟩ := fill_one (fun i => some (i * sz, sz)) arr i' (i' * sz) sz v rest rfl hsz hle
          obtain ⟨arr2, r1, r2, r3⟩ := hs Γ w arr' rest (by rw [f2, g1, List.length_set]) (g2.set hv hsz (fun j x hx => hcs.oneCells hv j x hx) f3) (by simpa using g3) (fun j a b c d' e1 e2 => g4 (j + 1) a b c d' (by simpa using e1) (by simpa using e2))
          exact ⟨arr2, by rw [f1]; exact r1, by rw [r2, f2], r3⟩
    · exact h.elim

theorem sliceParts_out : ∀ {l : List (Nat × Operand)} {ps : List (Nat × Rv)}, sliceParts l = some ps → l.length = ps.length ∧ ∀ (j i : Nat) (x : Operand) (i' : Nat) (r : Rv), l[j]? = some (i, x) → ps[j]? = some (i', r) → i = i' ∧ rv x = some r
  | [], ps, h => by cases h; exact ⟨rfl, fun j i x o n h => by simp at h⟩
  | (i, x) :: l, ps, h => by
    simp only [sliceParts] at h
    split at h
    · rename_i v ps' h1 h2
      cases h
      obtain ⟨a1, a2⟩ := sliceParts_out h2
      refine ⟨by simp [a1], fun j i' x' o' r e1 e2 => ?_⟩
      cases j with
      | zero => simp at e1 e2; obtain ⟨rfl, rfl⟩ := e1; obtain ⟨rfl, rfl⟩ := e2; exact ⟨rfl, h1⟩
      | succ j => exact a2 j i' x' o' r (by simpa using e1) (by simpa using e2)
    · cases h

theorem absZ_one {v : Value} {e : PV} (h : absZ v = some e) (j : Nat) (x : Value) (hx : v.cells[j]? = some x) : x.oneCell' = true := by
  unfold absZ at h
  split at h
  · rename_i cs
    obtain ⟨es, h1, rfl⟩ := Option.map_eq_some_iff.1 h
    exact (absPs_sound h1 (fun _ => False) default).2.2 j x (by simpa [Value.cells] using hx)
  · have h1 := (absP_sound h (fun _ => False) default).2
    rw [cells_of_oneCell h1] at hx
    cases j with
    | zero => simp at hx; subst hx; exact h1
    | succ j => simp at hx

theorem s_lit {own : Bool} {t e : TypeId} {len : Nat} {parts : Array (Nat × Operand)} {i : TypeInfo} {z : Value} {z' : PV} {ps : List (Nat × Rv)} (ho : o.op = .buildSlice t len parts) (hu : P.underlying t = some (.slice e)) (hi : P.info? e = some i) (hz : i.zero = some z)
    (hz' : absZ z = some z') (hps : sliceParts parts.toList = some ps) (hsm : len * i.size ≤ 16777216) (hpos : len * i.size ≠ 0) (hzs : z.cells.size = i.size) (h : opV P d (.lit own i.size z' len ps) fr ba lo K) : Sound1 P o fr ba lo K := by
  simp only [opV, repK_eq] at h
  have mem : ∀ {j i' : Nat} {x : Operand}, parts.toList[j]? = some (i', x) → x ∈ o.op.operands.toList := fun {j i' x} hj => by
    rw [ho]
    simp only [Op.operands]
    exact List.mem_map.2 ⟨(i', x), List.mem_of_getElem? hj, rfl⟩
  obtain ⟨a1, a2⟩ := sliceParts_out hps
  obtain ⟨es', h, hl, hs⟩ := lit_sound i.size _ _ _ h
  rw [List.length_replicate] at hl
  have hrow0 : ∀ (M : Nat → Prop) (w : World), RowOf M w i.size (fun k => ((Array.range (len * i.size)).map (z.cells[· % z.cells.size]!))[k]?) (List.replicate len z') := fun M w => by
    refine ⟨fun _ => z, fun j e' he' => hzs, fun j e' he' k x hx => ⟨absZ_one hz' k x hx, ?_⟩, fun j e' he' => ?_⟩
    · have hj : j < len := by have := get_lt he'; simpa using this
      have hk : k < i.size := by rw [← hzs]; exact aget_lt hx
      have hlt := idx_lt hj hk
      have e1 : (j * i.size + k) % z.cells.size = k := by rw [hzs, Nat.mul_comm, Nat.mul_add_mod, Nat.mod_eq_of_lt hk]
      simp [hlt, e1]
      have := (Array.getElem?_eq_some_iff.1 hx)
      obtain ⟨q1, q2⟩ := this
      rw [getElem!_pos z.cells k q1]; exact q2
    · rw [List.getElem?_replicate] at he'
      split at he'
      · cases he'; exact absZ_sound hz' M w
      · cases he'
  have main : ∀ (μ : List MI) (w : World) (a : Act), Opnds o a μ w ba fr → ∃ arr : Array Value, (execOp a.eval o).run P w = .ok (.value (.slice (some ⟨w.heap.size, 0, none⟩) len len)) (w.alloc (.cells arr e)) ∧ arr.size = len * i.size ∧ RowOf (blocks μ) w i.size (fun k => arr[k]?) es' := fun μ w a hp => by
    obtain ⟨arr, r1, r2, r3⟩ := hs ⟨blocks μ, ba.length, μ⟩ w _ (parts.toList.map fun x => (x.1, a.eval x.2)) (by simp) (hrow0 _ w) (by simpa using a1) (fun j i1 v i2 r e1 e2 => by
      rw [List.getElem?_map] at e1
      obtain ⟨⟨i3, x3⟩, f1, f2⟩ := Option.map_eq_some_iff.1 e1
      cases f2
      obtain ⟨k1, k2⟩ := a2 j _ _ _ _ f1 e2
      exact ⟨k1, hp x3 r (mem f1) k2⟩)
    refine ⟨arr, ?_, by rw [r2]; simp, r3⟩
    have e0 : (parts.map fun x => (x.1, a.eval x.2)).toList = parts.toList.map fun x => (x.1, a.eval x.2) := by simp
    have hr := run_buildSlice (P := P) w t e len (parts.map fun x => (x.1, a.eval x.2)) arr i z hu hi hz (by omega) hpos (by rw [e0]; exact r1)
    simp only [execOp, ho, Sem.run_bind]
    have e2 : (parts.map fun (i, x) => (i, a.eval x)) = parts.map fun x => (x.1, a.eval x.2) := rfl
    rw [e2, hr]
    rfl
  cases own with
  | false =>
    refine ⟨_, ba, lo, h, fun μ w a hinv hp => ?_⟩
    obtain ⟨arr, r1, r2, r3⟩ := main μ w a hp
    have hle := le_alloc μ hinv (.cells arr e)
    refine ⟨_, _, μ, .inl r1, .p _ _ ?_, hinv.grow hle fun b hb => heap_alloc_old w _ b hb, hle, rfl⟩
    rw [← hl]
    exact VP.of_row (row_at (heap_alloc_new w (.cells arr e)) (r3.mono hle.stays)) (fun hb => Nat.lt_irrefl _ (hinv.block_lt hb)) (by simp) (by omega)
  | true =>
    simp only [pushK_eq] at h
    refine ⟨_, ba, _, h, fun μ w a hinv hp => ?_⟩
    obtain ⟨arr, r1, r2, r3⟩ := main μ w a hp
    obtain ⟨h3, h4, h5⟩ := hinv.push (w' := w.alloc (.cells arr e)) (.buf (some w.heap.size) 0 arr.size) (.buf 0 i.size es') (fun b hb => by cases hb; exact Nat.le_refl _) rfl rfl rfl (by simp) (fun b hb => heap_alloc_old w (.cells arr e) b hb) fun hle =>
      ObOk.of_row (heap_alloc_new w (.cells arr e)) (by rw [r2, hl]; exact Nat.le_refl _) (r3.mono hle.stays)
    refine ⟨_, _, _, .inl r1, ?_, h3, h4, rfl⟩
    rw [hl]
    exact .view _ 0 i.size arr.size w.heap.size len len h5 (Nat.le_refl _) r2.symm

theorem s_litZ {t e : TypeId} {parts : Array (Nat × Operand)} {i : TypeInfo} {ps : List (Nat × Rv)} (ho : o.op = .buildSlice t 0 parts) (hu : P.underlying t = some (.slice e)) (hi : P.info? e = some i) (hps : sliceParts parts.toList = some ps) (h0 : ps = []) (h : opV P d .litZ fr ba lo K) : Sound1 P o fr ba lo K := by
  subst h0
  obtain ⟨a1, _⟩ := sliceParts_out hps
  have hp0 : parts = #[] := by
    apply Array.ext'
    exact List.length_eq_zero_iff.1 (by simpa using a1)
  subst hp0
  refine ⟨_, ba, lo, h, fun μ w a hinv hp => ?_⟩
  have hle := le_alloc μ hinv (.cells #[] e)
  refine ⟨.slice (some ⟨w.heap.size, 0, none⟩) 0 0, w.alloc (.cells #[] e), μ, .inl ?_, .p _ _ (.emp _), hinv.grow hle fun b hb => heap_alloc_old w _ b hb, hle, rfl⟩
  simp [execOp, ho, Instr.buildSlice, run_underlying hu, sizeOf, typeInfo, hi, Instr.fill, newRow, newObj]
  rw [show (Array.range 0).map (fun (_ : Nat) => (default : Value)) = #[] from by simp]
  rfl

end ops
end Go.Proofs.YtgdimfogijfmiaaDoor.AD

namespace Go.Proofs.YtgdimfogijfmiaaDoor.AD
set_option linter.unusedVariables false
set_option linter.unusedSimpArgs false

section ops
variable {P : Program} {o : Oper} {fr : FR} {ba lo : List Ob} {K : AV → List Ob → List Ob → Prop} {d : Bool}

theorem run_storeVar {w : World} {t ty : TypeId} {b off n : Nat} {cur : Array Value} {v : Value} (hg : w.heap[b]? = some (.cells cur ty (0, 0))) (hn : sizeT P t = some n) (hv : v.cells.size = n) (hfit : off + n ≤ cur.size) (h1 : ∀ (j : Nat) (x : Value), v.cells[j]? = some x → x.oneCell' = true) :
    (storeVar t ⟨b, off, none⟩ v).run P w = .ok () (w.setRow b (cur.toList.take off ++ v.cells.toList ++ cur.toList.drop (off + v.cells.toList.length)).toArray) := by
  obtain ⟨i, hi, hsz⟩ := Option.map_eq_some_iff.1 hn
  have hs := run_storeCells_at P b off ty v.cells.toList 0 cur w hg (by rw [Nat.add_zero, Array.length_toList, hv]; exact hfit) (fun x hx => by
    obtain ⟨j, hj⟩ := List.mem_iff_getElem?.1 hx
    exact h1 j x (by simpa using hj))
  simp only [Nat.add_zero] at hs
  have e : ¬ (v.cells.size ≠ i.size) := by rw [hv, hsz]; simp
  simp only [storeVar, sizeOf, typeInfo, Sem.run_bind, run_program, Result.andThen_ok, hi, Sem.run_pure, Sem.run_ite, if_neg e, hs]

theorem noL_take {M : Nat → Prop} {n : Nat} {μ : List MI} {w : World} {v : Value} {a : AV} (h : VA ⟨M, n, μ⟩ w v a) (hl : a.noL = true) : VA ⟨M, n, μ.take n⟩ w v a := by
  have at_ : ∀ {id : Nat} {m : MI}, Ctx.at ⟨M, n, μ⟩ (.b id) = some m → Ctx.at ⟨M, n, μ.take n⟩ (.b id) = some m := fun {id m} h => by
    simp only [Ctx.at] at h ⊢
    split at h
    · rename_i hlt; rw [if_pos hlt, List.getElem?_take, if_pos hlt]; exact h
    · cases h
  cases h with
  | p v e h => exact .p v e h
  | ref r off b h => cases r with | l => cases hl | b id => exact .ref _ off b (at_ h)
  | view0 r g sz n h => cases r with | l => cases hl | b id => exact .view0 _ g sz n (at_ h)
  | view r g sz n b len cap h h1 h2 => cases r with | l => cases hl | b id => exact .view _ g sz n b len cap (at_ h) h1 h2
  | viewOld v r g sz len b g' n h hg h0 => cases r with | l => cases hl | b id => exact .viewOld _ _ g sz len b g' n (at_ h) hg h0
  | viewGone v r g sz len h h0 => cases r with | l => cases hl | b id => exact .viewGone _ _ g sz len (at_ h) h0
  | tail r g sz n b off len cap h h1 h2 => cases r with | l => cases hl | b id => exact .tail _ g sz n b off len cap (at_ h) h1 h2
  | tail0 r g sz n off b A h => cases r with | l => cases hl | b id => exact .tail0 _ g sz n off b A (at_ h)
  | tailOld v r g sz off len b g' n h hg h0 => cases r with | l => cases hl | b id' => exact .tailOld _ _ g sz off len b g' n (at_ h) hg h0
  | tailGone v r g sz off len h h0 => cases r with | l => cases hl | b id => exact .tailGone _ _ g sz off len (at_ h) h0
  | elt r g sz n b idx off h => cases r with | l => cases hl | b id => exact .elt _ g sz n b idx off (at_ h)
  | eltOld v r g sz idx off b g' n h hg h0 => cases r with | l => cases hl | b id => exact .eltOld _ _ g sz idx off b g' n (at_ h) hg h0
  | eltGone v r g sz idx off h h0 => cases r with | l => cases hl | b id => exact .eltGone _ _ g sz idx off (at_ h) h0
  | mapr r b h => cases r with | l => cases hl | b id => exact .mapr _ b (at_ h)
  | maprGone v r h h0 => cases r with | l => cases hl | b id => exact .maprGone _ _ (at_ h) h0
  | clos => cases hl
  | agg => cases hl
  | tup => cases hl

theorem noLs_mem : ∀ {l : List AV}, noLs l = true → ∀ (j : Nat) (a : AV), l[j]? = some a → a.noL = true
  | [], _, j, a, h => by simp at h
  | b :: r, h, j, a, ha => by
    simp only [noLs, Bool.and_eq_true] at h
    cases j with
    | zero => simp at ha; subst ha; exact h.1
    | succ j => exact noLs_mem h.2 j a (by simpa using ha)

theorem arr_splice_get {xs vs : List Value} {off k : Nat} (h : off + vs.length ≤ xs.length) : ((xs.take off ++ vs ++ xs.drop (off + vs.length)).toArray)[k]? = if off ≤ k ∧ k < off + vs.length then vs[k - off]? else xs[k]? := by
  rw [List.getElem?_toArray]; exact splice_get h k

/-- A store into an object's cells. -/
theorem store_obj {Γ : Ctx} {w : World} {off : Nat} {xs : Array Value} {cs news : List AV} {v : Value} (hsz : xs.size = cs.length) (hold : ∀ (j : Nat) (x : Value) (c : AV), xs[j]? = some x → cs[j]? = some c → VA Γ w x c ∧ x.oneCell' = true)
    (hv : CellsV Γ w v.cells news) (h1 : ∀ (j : Nat) (x : Value), v.cells[j]? = some x → x.oneCell' = true) (hfit : off + news.length ≤ cs.length) :
    (xs.toList.take off ++ v.cells.toList ++ xs.toList.drop (off + v.cells.toList.length)).toArray.size = (cs.take off ++ news ++ cs.drop (off + news.length)).length ∧
    ∀ (j : Nat) (x : Value) (c : AV), (xs.toList.take off ++ v.cells.toList ++ xs.toList.drop (off + v.cells.toList.length)).toArray[j]? = some x → (cs.take off ++ news ++ cs.drop (off + news.length))[j]? = some c → VA Γ w x c ∧ x.oneCell' = true := by
  have e1 : v.cells.toList.length = news.length := by rw [Array.length_toList]; exact hv.1
  have f1 : off + v.cells.toList.length ≤ xs.toList.length := by rw [e1]; rw [show xs.toList.length = cs.length by rw [Array.length_toList, hsz]]; exact hfit
  refine ⟨by rw [List.size_toArray, splice_len f1, splice_len hfit, Array.length_toList, hsz], fun j x c hx hc => ?_⟩
  rw [arr_splice_get f1, e1] at hx
  rw [splice_get hfit] at hc
  by_cases hj : off ≤ j ∧ j < off + news.length
  · rw [if_pos hj] at hx hc
    have hx' : v.cells[j - off]? = some x := by simpa using hx
    exact ⟨hv.2 _ x c hx' hc, h1 _ x hx'⟩
  · rw [if_neg hj] at hx hc
    exact hold j x c (by simpa using hx) hc

theorem exec_store {t : TypeId} {x y : Operand} {a : Act} {w w' : World} {ad : Addr} (ho : o.op = .store t x y) (hx : a.eval x = .pointer (some ad)) (h : (storeVar t ad (a.eval y)).run P w = .ok () w') : (execOp a.eval o).run P w = .ok .skip w' := by
  simp [execOp, ho, hx, Instr.storeAt, Instr.sureAddr, h]

theorem store_bufA {Γ : Ctx} {w : World} {idx : Nat} {xs : Array Value} {es : List AV} {a : AV} {v : Value} (h4 : es.length ≤ xs.size) (h5 : ∀ (j : Nat) (x : Value) (c : AV), xs[j]? = some x → es[j]? = some c → VA Γ w x c ∧ x.oneCell' = true) (hv : CellsV Γ w v.cells [a]) (h1 : ∀ (j : Nat) (x : Value), v.cells[j]? = some x → x.oneCell' = true) (hidx : idx < es.length) :
    (xs.toList.take (idx * 1 + 0) ++ v.cells.toList ++ xs.toList.drop (idx * 1 + 0 + v.cells.toList.length)).toArray.size = xs.size ∧
    ∀ (j : Nat) (x : Value) (c : AV), (xs.toList.take (idx * 1 + 0) ++ v.cells.toList ++ xs.toList.drop (idx * 1 + 0 + v.cells.toList.length)).toArray[j]? = some x → (es.set idx a)[j]? = some c → VA Γ w x c ∧ x.oneCell' = true := by
  have e3 : v.cells.toList.length = 1 := by rw [Array.length_toList, hv.1]; rfl
  have f1 : idx * 1 + 0 + v.cells.toList.length ≤ xs.toList.length := by rw [e3, Array.length_toList]; omega
  refine ⟨by rw [List.size_toArray, splice_len f1, Array.length_toList], fun j x c hx hc => ?_⟩
  rw [arr_splice_get f1, e3] at hx
  rw [List.getElem?_set] at hc
  by_cases hj : idx = j
  · subst hj
    rw [if_pos rfl, if_pos hidx] at hc
    cases hc
    rw [if_pos (by omega), show idx - (idx * 1 + 0) = 0 by omega, Array.getElem?_toList] at hx
    exact ⟨hv.2 0 x _ hx rfl, h1 0 x hx⟩
  · rw [if_neg hj] at hc
    rw [if_neg (by omega), Array.getElem?_toList] at hx
    exact h5 j x c hx hc

theorem s_store {t : TypeId} {n : Nat} {x y : Operand} {rx ry : Rv} (ho : o.op = .store t x y) (hn : sizeT P t = some n) (hx : rv x = some rx) (hy : rv y = some ry) (h : opV P d (.store n rx ry) fr ba lo K) : Sound1 P o fr ba lo K := by
  have hm : x ∈ o.op.operands.toList := by simp [ho, Op.operands]
  have hmy : y ∈ o.op.operands.toList := by simp [ho, Op.operands]
  simp only [opV, evK_eq] at h
  obtain ⟨news, hc, hsc, h⟩ := cellsK_out h
  cases hb : Nat.beq news.length n with
  | false => rw [hb] at h; exact h.elim
  | true =>
    rw [hb] at h
    have hnl : news.length = n := Nat.eq_of_beq_eq_true hb
    simp only [cond_true] at h
    split at h
    · rename_i m off e1
      obtain ⟨ob, hob, h⟩ := atK_out _ _ _ h
      split at h
      · rename_i cs
        obtain ⟨hfit, h⟩ := spliceK_out _ _ _ _ h
        obtain ⟨hml, h⟩ := setAtK_out _ _ _ _ h
        refine ⟨_, _, _, h, fun μ w a hi hp => ?_⟩
        obtain ⟨mi, g1, g2⟩ := hi.at_l hob
        obtain ⟨b, xs, ty, rfl, g3, g4, g5, g6⟩ := g2.acells
        have hptr := ref_inv (hp.get hm hx e1) g1
        have hv := (hp.get hmy hy rfl).cells hc
        have h1 := fun j x hx => hv.one hsc j x hx
        have hst := run_storeVar (P := P) (v := a.eval y) g3 hn (by rw [hv.1, hnl]) (by rw [g4, ← hnl]; exact hfit) h1
        obtain ⟨q1, q2⟩ := store_obj g4 g5 hv h1 hfit
        have hmi : μ[ba.length + m]? = some (.cells b) := g1
        obtain ⟨r1, r2⟩ := hi.change (w' := w.setRow b (xs.toList.take off ++ (a.eval y).cells.toList ++ xs.toList.drop (off + (a.eval y).cells.toList.length)).toArray) (ba' := ba) (lo' := lo.set m (.cells (cs.take off ++ news ++ cs.drop (off + news.length)))) hmi (.refl _)
          (fun b' hb' => .inl hb') rfl rfl rfl (by simp) (fun b' hb' hne => setRow_other w b b' _ (fun e => hne (by rw [e]; rfl))) rfl (by simp) (fun j hj => rfl)
          (fun k hk => by rw [List.getElem?_set_ne (by omega)]) (fun hle o' hlt => by omega) (fun hle k o' hk ho' => by
            have hk' : k = m := by omega
            subst hk'
            rw [List.getElem?_set] at ho'
            rw [if_pos rfl, if_pos hml] at ho'
            cases ho'
            exact .cells b _ ty _ (setRow_heap w b xs _ ty (0, 0) g3) q1 fun j x c hx hc => ⟨(q2 j x c hx hc).1.mono hle.stays hle.above, (q2 j x c hx hc).2⟩)
        exact ⟨undef, _, _, .inr ⟨exec_store ho hptr hst, rfl⟩, .p _ _ (.undef _), r1, r2, rfl⟩
      · exact h.elim
    · rename_i id off e1
      obtain ⟨ob, hob, h⟩ := atK_out _ _ _ h
      cases ob <;> first | exact (show False from h).elim | skip
      rename_i cs
      replace h : (match noLs news with | true => spliceK off news cs fun cs' => setAtK id ba (.cells cs') fun ba' => K (.p .undef) ba' lo | false => False) := h
      split at h
      case h_2 => exact h.elim
      rename_i hnl2
      obtain ⟨hfit, h⟩ := spliceK_out _ _ _ _ h
      obtain ⟨_, h⟩ := setAtK_out _ _ _ _ h
      refine ⟨_, _, _, h, fun μ w a hi hp => ?_⟩
      obtain ⟨mi, g1, g2⟩ := hi.at_b hob
      obtain ⟨b, xs, ty, rfl, g3, g4, g5, g6⟩ := g2.acells
      have hptr := ref_inv (hp.get hm hx e1) g1
      have hv := (hp.get hmy hy rfl).cells hc
      have h1 := fun j x hx => hv.one hsc j x hx
      have hst := run_storeVar (P := P) (v := a.eval y) g3 hn (by rw [hv.1, hnl]) (by rw [g4, ← hnl]; exact hfit) h1
      have hv' : CellsV ⟨blocks μ, ba.length, μ.take ba.length⟩ w (a.eval y).cells news := ⟨hv.1, fun j x c hx hc => noL_take (hv.2 j x c hx hc) (noLs_mem hnl2 j c hc)⟩
      obtain ⟨q1, q2⟩ := store_obj g4 g5 hv' h1 hfit
      have hidl := get_lt hob
      have hmi : μ[id]? = some (.cells b) := by
        simp only [Ctx.at] at g1
        rw [if_pos hidl] at g1
        exact g1
      obtain ⟨r1, r2⟩ := hi.change (w' := w.setRow b (xs.toList.take off ++ (a.eval y).cells.toList ++ xs.toList.drop (off + (a.eval y).cells.toList.length)).toArray) (ba' := ba.set id (.cells (cs.take off ++ news ++ cs.drop (off + news.length)))) (lo' := lo) hmi (.refl _)
        (fun b' hb' => .inl hb') rfl rfl rfl (by simp) (fun b' hb' hne => setRow_other w b b' _ (fun e => hne (by rw [e]; rfl))) (by simp) rfl
        (fun j hj => by rw [List.getElem?_set_ne (fun e => hj e.symm)]) (fun k hk => rfl) (fun hle o' hlt ho' => by
          rw [List.getElem?_set] at ho'
          rw [if_pos rfl, if_pos hidl] at ho'
          cases ho'
          refine .cells b _ ty _ (setRow_heap w b xs _ ty (0, 0) g3) q1 fun j x c hx hc => ⟨(q2 j x c hx hc).1.mono hle.stays ?_, (q2 j x c hx hc).2⟩
          intro i' m' h3
          rw [List.getElem?_take] at h3
          split at h3
          · rename_i hlt'
            obtain ⟨m3, h4, h5⟩ := hle.above i' m' h3
            exact ⟨m3, by rw [List.getElem?_take, if_pos hlt']; exact h4, h5⟩
          · cases h3) (fun hle k o' hk => by omega)
      exact ⟨undef, _, _, .inr ⟨exec_store ho hptr hst, rfl⟩, .p _ _ (.undef _), r1, r2, by simp⟩
    · rename_i m g sz idx off e1
      obtain ⟨ob, hob, h⟩ := atK_out _ _ _ h
      split at h
      · rename_i g' sz' es
        obtain ⟨⟨rfl, rfl⟩, e, he, h⟩ := h
        rcases allPK_out _ _ _ h with ⟨ps, hps, h⟩ | h
        case inr => exact h.elim
        have key : ∃ e', K (.p .undef) ba (lo.set m (.buf g sz (es.set idx e'))) ∧ m < lo.length ∧ ∀ (M : Nat → Prop) (w : World) (c : Value) (vs : Array Value), VP M w c e → c.cells.size = sz → vs.size = ps.length →
            (∀ (j : Nat) (x : Value) (p : PV), vs[j]? = some x → ps[j]? = some p → VP M w x p) → (∀ (j : Nat) (x : Value), vs[j]? = some x → x.oneCell' = true) →
            off + ps.length ≤ sz ∧ ∃ c' : Value, VP M w c' e' ∧ c'.cells.size = sz ∧ (∀ (j : Nat) (x : Value), c'.cells[j]? = some x → x.oneCell' = true) ∧ ∀ k, k < sz → c'.cells[k]? = if off ≤ k ∧ k < off + ps.length then vs[k - off]? else c.cells[k]? := by
          split at h
          · obtain ⟨hfit, h⟩ := spliceK_out _ _ _ _ h
            obtain ⟨hml, h⟩ := setAtK_out _ _ _ _ h
            refine ⟨_, h, hml, fun M w c vs v1 v2 v3 v4 v5 => ?_⟩
            cases v1 with
            | agg xs cs x1 x2 x3 =>
              simp only [Value.cells] at v2 ⊢
              have e3 : vs.toList.length = ps.length := by rw [Array.length_toList]; exact v3
              have f1 : off + vs.toList.length ≤ xs.toList.length := by rw [e3]; rw [show xs.toList.length = _ by rw [Array.length_toList, x1]]; exact hfit
              have getx : ∀ k, (xs.toList.take off ++ vs.toList ++ xs.toList.drop (off + vs.toList.length)).toArray[k]? = if off ≤ k ∧ k < off + ps.length then vs[k - off]? else xs[k]? := fun k => by
                rw [arr_splice_get f1, e3]; simp
              have one : ∀ (j : Nat) (x : Value), (xs.toList.take off ++ vs.toList ++ xs.toList.drop (off + vs.toList.length)).toArray[j]? = some x → x.oneCell' = true := fun j x hx => by
                rw [getx] at hx
                split at hx
                · exact v5 _ x hx
                · exact x3 _ x hx
              have hsz2 : (xs.toList.take off ++ vs.toList ++ xs.toList.drop (off + vs.toList.length)).toArray.size = xs.size := by rw [List.size_toArray, splice_len f1, Array.length_toList]
              refine ⟨by omega, .agg (xs.toList.take off ++ vs.toList ++ xs.toList.drop (off + vs.toList.length)).toArray, .agg _ _ (by rw [hsz2, splice_len hfit, x1]) (fun j x c hx hc => ?_) one, by simp only [Value.cells]; rw [hsz2]; exact v2, by simp only [Value.cells]; exact one, fun k _ => by simp only [Value.cells]; exact getx k⟩
              rw [getx] at hx
              rw [splice_get hfit] at hc
              by_cases hj : off ≤ j ∧ j < off + ps.length
              · rw [if_pos hj] at hx hc; exact v4 _ x c hx hc
              · rw [if_neg hj] at hx hc; exact x2 _ x c hx hc
          · exact h.elim
          · exact h.elim
          · split at h
            · obtain ⟨rfl, rfl, h⟩ := h
              obtain ⟨hml, h⟩ := setAtK_out _ _ _ _ h
              refine ⟨_, h, hml, fun M w c vs v1 v2 v3 v4 v5 => ?_⟩
              have hz : 0 < vs.size := by rw [v3]; simp
              have hv0 : vs[0]? = some vs[0] := Array.getElem?_eq_getElem hz
              have one := v5 0 _ hv0
              refine ⟨by simp, vs[0], v4 0 _ _ hv0 rfl, by rw [cells_of_oneCell one]; rfl, fun j x hx => ?_, fun k hk => ?_⟩
              · rw [cells_of_oneCell one] at hx
                cases j with
                | zero => simp at hx; rw [← hx]; exact one
                | succ j => simp at hx
              · have : k = 0 := by omega
                subst this
                rw [cells_of_oneCell one, if_pos (by simp)]
                simp [hv0]
            · exact h.elim
        obtain ⟨e', hk, hml, hel⟩ := key
        refine ⟨_, _, _, hk, fun μ w a hi hp => ?_⟩
        obtain ⟨mi, g1, g2⟩ := hi.at_l hob
        have hmi : μ[ba.length + m]? = some mi := g1
        rcases g2.row with ⟨n', rfl, rfl⟩ | ⟨b, xs, ty, rfl, g3, g4, g5⟩
        · simp at he
        · have hptr := elt_inv (hp.get hm hx e1) g1
          have hv := (hp.get hmy hy rfl).cells hc
          have h1 := fun j x hx => hv.one hsc j x hx
          obtain ⟨c, c1, c2, c3⟩ := g5.get he
          have hpl : (a.eval y).cells.size = ps.length := by rw [hv.1, hps, List.length_map]
          obtain ⟨l1, c', l2, l3, l4, l5⟩ := hel _ w c (a.eval y).cells c3 c1 hpl (fun j x p hx hp' => (hv.2 j x (.p p) hx (by rw [hps, List.getElem?_map, hp']; rfl)).pv) h1
          have hnl2 : ps.length = n := by rw [← hnl, hps, List.length_map]
          have hidx := get_lt he
          have hfit : idx * sz + off + n ≤ xs.size := by
            have h5 := Nat.mul_le_mul_right sz (show idx + 1 ≤ es.length from hidx)
            rw [Nat.add_mul, Nat.one_mul] at h5
            omega
          have hst := run_storeVar (P := P) (v := a.eval y) g3 hn (by rw [hv.1, hnl]) hfit h1
          have e3 : (a.eval y).cells.toList.length = ps.length := by rw [Array.length_toList]; exact hpl
          have f1 : idx * sz + off + (a.eval y).cells.toList.length ≤ xs.toList.length := by rw [e3, Array.length_toList (xs := xs)]; omega
          have hrow : ∀ {M : Nat → Prop} {w' : World}, Stays (blocks μ) w M w' → RowOf M w' sz (fun k => (xs.toList.take (idx * sz + off) ++ (a.eval y).cells.toList ++ xs.toList.drop (idx * sz + off + (a.eval y).cells.toList.length)).toArray[k]?) (es.set idx e') := fun {M w'} hs => by
            refine (g5.mono hs).set (l2.mono hs) l3 l4 fun k => ?_
            rw [arr_splice_get f1, e3]
            by_cases hk1 : idx * sz ≤ k ∧ k < idx * sz + sz
            · rw [if_pos hk1, l5 _ (by omega)]
              by_cases hk2 : off ≤ k - idx * sz ∧ k - idx * sz < off + ps.length
              · rw [if_pos hk2, if_pos (by omega)]
                simp
                congr 1
                omega
              · rw [if_neg hk2, if_neg (by omega)]
                have hk3 : k - idx * sz < c.cells.size := by rw [c1]; omega
                have := (c2 (k - idx * sz) _ (Array.getElem?_eq_getElem hk3)).2
                rw [show idx * sz + (k - idx * sz) = k by omega] at this
                rw [Array.getElem?_eq_getElem hk3, Array.getElem?_toList]
                exact this
            · rw [if_neg hk1, if_neg (by omega)]
              simp
          have hsz2 : (xs.toList.take (idx * sz + off) ++ (a.eval y).cells.toList ++ xs.toList.drop (idx * sz + off + (a.eval y).cells.toList.length)).toArray.size = xs.size := by rw [List.size_toArray, splice_len f1, Array.length_toList]
          obtain ⟨r1, r2⟩ := hi.change (w' := w.setRow b (xs.toList.take (idx * sz + off) ++ (a.eval y).cells.toList ++ xs.toList.drop (idx * sz + off + (a.eval y).cells.toList.length)).toArray) (ba' := ba) (lo' := lo.set m (.buf g sz (es.set idx e'))) hmi (.refl _)
            (fun b' hb' => .inl hb') rfl rfl rfl (by simp) (fun b' hb' hne => setRow_other w b b' _ (fun e => hne (by rw [e]; rfl))) rfl (by simp) (fun j hj => rfl)
            (fun k hk => by rw [List.getElem?_set_ne (by omega)]) (fun hle o' hlt => by omega) (fun hle k o' hk ho' => by
              have hk' : k = m := by omega
              subst hk'
              rw [List.getElem?_set] at ho'
              rw [if_pos rfl, if_pos hml] at ho'
              cases ho'
              have := ObOk.of_row (Γ := ⟨blocks (μ.set (ba.length + k) (.buf (some b) g xs.size)), ba.length, μ.set (ba.length + k) (.buf (some b) g xs.size)⟩) (g := g) (setRow_heap w b xs (xs.toList.take (idx * sz + off) ++ (a.eval y).cells.toList ++ xs.toList.drop (idx * sz + off + (a.eval y).cells.toList.length)).toArray ty (0, 0) g3) (by rw [hsz2, List.length_set]; exact g4) (hrow hle.stays)
              rw [hsz2] at this
              exact this)
          exact ⟨undef, _, _, .inr ⟨exec_store ho hptr hst, rfl⟩, .p _ _ (.undef _), r1, r2, rfl⟩
      · rename_i g' es
        have hgood := h
        clear h
        generalize hnn : news = nn at hgood
        split at hgood
        case h_2 => exact hgood.elim
        rename_i a1
        subst hnn
        obtain ⟨⟨hq1, hq2, hq3, hidx⟩, hgood⟩ := hgood
        subst hq1; subst hq2; subst hq3
        obtain ⟨hml, hgood⟩ := setAtK_out _ _ _ _ hgood
        refine ⟨_, _, _, hgood, fun μ w a hi hp => ?_⟩
        obtain ⟨mi, g1, g2⟩ := hi.at_l hob
        have hmi : μ[ba.length + m]? = some mi := g1
        obtain ⟨b, xs, ty, rfl, g3, g4, g5⟩ := g2.rowA
        have hptr := elt_inv (hp.get hm hx e1) g1
        have hv := (hp.get hmy hy rfl).cells hc
        have h1 := fun j x hx => hv.one hsc j x hx
        obtain rfl : 1 = n := hnl
        have hst := run_storeVar (P := P) (v := a.eval y) g3 hn (by rw [hv.1]; rfl) (show idx * 1 + 0 + 1 ≤ xs.size by omega) h1
        obtain ⟨q1, q2⟩ := store_bufA g4 g5 hv h1 hidx
        obtain ⟨r1, r2⟩ := hi.change (w' := w.setRow b (xs.toList.take (idx * 1 + 0) ++ (a.eval y).cells.toList ++ xs.toList.drop (idx * 1 + 0 + (a.eval y).cells.toList.length)).toArray) (ba' := ba) (lo' := lo.set m (.bufA g (es.set idx a1))) hmi (.refl _)
          (fun b' hb' => .inl hb') rfl rfl rfl (by simp) (fun b' hb' hne => setRow_other w b b' _ (fun e => hne (by rw [e]; rfl))) rfl (by simp) (fun j hj => rfl)
          (fun k hk => by rw [List.getElem?_set_ne (by omega)]) (fun hle o' hlt => by omega) (fun hle k o' hk ho' => by
            have hk' : k = m := by omega
            subst hk'
            rw [List.getElem?_set] at ho'
            rw [if_pos rfl, if_pos hml] at ho'
            cases ho'
            exact .bufA b g _ _ ty _ (setRow_heap w b xs _ ty (0, 0) g3) q1 (by rw [List.length_set]; exact g4) fun j x c hx hc => ⟨(q2 j x c hx hc).1.mono hle.stays hle.above, (q2 j x c hx hc).2⟩)
        exact ⟨undef, _, _, .inr ⟨exec_store ho hptr hst, rfl⟩, .p _ _ (.undef _), r1, r2, rfl⟩
      · exact h.elim
    · rename_i m g sz idx off e1
      obtain ⟨ob, hob, h⟩ := atK_out _ _ _ h
      split at h
      · rename_i g' sz' es
        obtain ⟨⟨rfl, rfl⟩, e, he, h⟩ := h
        rcases allPK_out _ _ _ h with ⟨ps, hps, h⟩ | h
        case inr => exact h.elim
        have key : ∃ e', K (.p .undef) (ba.set m (.buf g sz (es.set idx e'))) lo ∧ m < ba.length ∧ ∀ (M : Nat → Prop) (w : World) (c : Value) (vs : Array Value), VP M w c e → c.cells.size = sz → vs.size = ps.length →
            (∀ (j : Nat) (x : Value) (p : PV), vs[j]? = some x → ps[j]? = some p → VP M w x p) → (∀ (j : Nat) (x : Value), vs[j]? = some x → x.oneCell' = true) →
            off + ps.length ≤ sz ∧ ∃ c' : Value, VP M w c' e' ∧ c'.cells.size = sz ∧ (∀ (j : Nat) (x : Value), c'.cells[j]? = some x → x.oneCell' = true) ∧ ∀ k, k < sz → c'.cells[k]? = if off ≤ k ∧ k < off + ps.length then vs[k - off]? else c.cells[k]? := by
          split at h
          · obtain ⟨hfit, h⟩ := spliceK_out _ _ _ _ h
            obtain ⟨hml, h⟩ := setAtK_out _ _ _ _ h
            refine ⟨_, h, hml, fun M w c vs v1 v2 v3 v4 v5 => ?_⟩
            cases v1 with
            | agg xs cs x1 x2 x3 =>
              simp only [Value.cells] at v2 ⊢
              have e3 : vs.toList.length = ps.length := by rw [Array.length_toList]; exact v3
              have f1 : off + vs.toList.length ≤ xs.toList.length := by rw [e3]; rw [show xs.toList.length = _ by rw [Array.length_toList, x1]]; exact hfit
              have getx : ∀ k, (xs.toList.take off ++ vs.toList ++ xs.toList.drop (off + vs.toList.length)).toArray[k]? = if off ≤ k ∧ k < off + ps.length then vs[k - off]? else xs[k]? := fun k => by
                rw [arr_splice_get f1, e3]; simp
              have one : ∀ (j : Nat) (x : Value), (xs.toList.take off ++ vs.toList ++ xs.toList.drop (off + vs.toList.length)).toArray[j]? = some x → x.oneCell' = true := fun j x hx => by
                rw [getx] at hx
                split at hx
                · exact v5 _ x hx
                · exact x3 _ x hx
              have hsz2 : (xs.toList.take off ++ vs.toList ++ xs.toList.drop (off + vs.toList.length)).toArray.size = xs.size := by rw [List.size_toArray, splice_len f1, Array.length_toList]
              refine ⟨by omega, .agg (xs.toList.take off ++ vs.toList ++ xs.toList.drop (off + vs.toList.length)).toArray, .agg _ _ (by rw [hsz2, splice_len hfit, x1]) (fun j x c hx hc => ?_) one, by simp only [Value.cells]; rw [hsz2]; exact v2, by simp only [Value.cells]; exact one, fun k _ => by simp only [Value.cells]; exact getx k⟩
              rw [getx] at hx
              rw [splice_get hfit] at hc
              by_cases hj : off ≤ j ∧ j < off + ps.length
              · rw [if_pos hj] at hx hc; exact v4 _ x c hx hc
              · rw [if_neg hj] at hx hc; exact x2 _ x c hx hc
          · exact h.elim
          · exact h.elim
          · split at h
            · obtain ⟨rfl, rfl, h⟩ := h
              obtain ⟨hml, h⟩ := setAtK_out _ _ _ _ h
              refine ⟨_, h, hml, fun M w c vs v1 v2 v3 v4 v5 => ?_⟩
              have hz : 0 < vs.size := by rw [v3]; simp
              have hv0 : vs[0]? = some vs[0] := Array.getElem?_eq_getElem hz
              have one := v5 0 _ hv0
              refine ⟨by simp, vs[0], v4 0 _ _ hv0 rfl, by rw [cells_of_oneCell one]; rfl, fun j x hx => ?_, fun k hk => ?_⟩
              · rw [cells_of_oneCell one] at hx
                cases j with
                | zero => simp at hx; rw [← hx]; exact one
                | succ j => simp at hx
              · have : k = 0 := by omega
                subst this
                rw [cells_of_oneCell one, if_pos (by simp)]
                simp [hv0]
            · exact h.elim
        obtain ⟨e', hk, hml, hel⟩ := key
        refine ⟨_, _, _, hk, fun μ w a hi hp => ?_⟩
        obtain ⟨mi, g1, g2⟩ := hi.at_b hob
        have hidl := get_lt hob
        have hmi : μ[m]? = some mi := by
          have g3 := g1
          simp only [Ctx.at] at g3
          rw [if_pos hidl] at g3
          exact g3
        rcases g2.of_take.row with ⟨n', rfl, rfl⟩ | ⟨b, xs, ty, rfl, g3, g4, g5⟩
        · simp at he
        · have hptr := elt_inv (hp.get hm hx e1) g1
          have hv := (hp.get hmy hy rfl).cells hc
          have h1 := fun j x hx => hv.one hsc j x hx
          obtain ⟨c, c1, c2, c3⟩ := g5.get he
          have hpl : (a.eval y).cells.size = ps.length := by rw [hv.1, hps, List.length_map]
          obtain ⟨l1, c', l2, l3, l4, l5⟩ := hel _ w c (a.eval y).cells c3 c1 hpl (fun j x p hx hp' => (hv.2 j x (.p p) hx (by rw [hps, List.getElem?_map, hp']; rfl)).pv) h1
          have hnl2 : ps.length = n := by rw [← hnl, hps, List.length_map]
          have hidx := get_lt he
          have hfit : idx * sz + off + n ≤ xs.size := by
            have h5 := Nat.mul_le_mul_right sz (show idx + 1 ≤ es.length from hidx)
            rw [Nat.add_mul, Nat.one_mul] at h5
            omega
          have hst := run_storeVar (P := P) (v := a.eval y) g3 hn (by rw [hv.1, hnl]) hfit h1
          have e3 : (a.eval y).cells.toList.length = ps.length := by rw [Array.length_toList]; exact hpl
          have f1 : idx * sz + off + (a.eval y).cells.toList.length ≤ xs.toList.length := by rw [e3, Array.length_toList (xs := xs)]; omega
          have hrow : ∀ {M : Nat → Prop} {w' : World}, Stays (blocks μ) w M w' → RowOf M w' sz (fun k => (xs.toList.take (idx * sz + off) ++ (a.eval y).cells.toList ++ xs.toList.drop (idx * sz + off + (a.eval y).cells.toList.length)).toArray[k]?) (es.set idx e') := fun {M w'} hs => by
            refine (g5.mono hs).set (l2.mono hs) l3 l4 fun k => ?_
            rw [arr_splice_get f1, e3]
            by_cases hk1 : idx * sz ≤ k ∧ k < idx * sz + sz
            · rw [if_pos hk1, l5 _ (by omega)]
              by_cases hk2 : off ≤ k - idx * sz ∧ k - idx * sz < off + ps.length
              · rw [if_pos hk2, if_pos (by omega)]
                simp
                congr 1
                omega
              · rw [if_neg hk2, if_neg (by omega)]
                have hk3 : k - idx * sz < c.cells.size := by rw [c1]; omega
                have := (c2 (k - idx * sz) _ (Array.getElem?_eq_getElem hk3)).2
                rw [show idx * sz + (k - idx * sz) = k by omega] at this
                rw [Array.getElem?_eq_getElem hk3, Array.getElem?_toList]
                exact this
            · rw [if_neg hk1, if_neg (by omega)]
              simp
          have hsz2 : (xs.toList.take (idx * sz + off) ++ (a.eval y).cells.toList ++ xs.toList.drop (idx * sz + off + (a.eval y).cells.toList.length)).toArray.size = xs.size := by rw [List.size_toArray, splice_len f1, Array.length_toList]
          obtain ⟨r1, r2⟩ := hi.change (w' := w.setRow b (xs.toList.take (idx * sz + off) ++ (a.eval y).cells.toList ++ xs.toList.drop (idx * sz + off + (a.eval y).cells.toList.length)).toArray) (ba' := ba.set m (.buf g sz (es.set idx e'))) (lo' := lo) hmi (.refl _)
            (fun b' hb' => .inl hb') rfl rfl rfl (by simp) (fun b' hb' hne => setRow_other w b b' _ (fun e => hne (by rw [e]; rfl))) (by simp) rfl
            (fun j hj => by rw [List.getElem?_set_ne (fun e => hj e.symm)]) (fun k hk => rfl) (fun hle o' hlt ho' => by
              rw [List.getElem?_set] at ho'
              rw [if_pos rfl, if_pos hml] at ho'
              cases ho'
              have := ObOk.of_row (Γ := ⟨blocks (μ.set m (.buf (some b) g xs.size)), ba.length, (μ.set m (.buf (some b) g xs.size)).take ba.length⟩) (g := g) (setRow_heap w b xs (xs.toList.take (idx * sz + off) ++ (a.eval y).cells.toList ++ xs.toList.drop (idx * sz + off + (a.eval y).cells.toList.length)).toArray ty (0, 0) g3) (by rw [hsz2, List.length_set]; exact g4) (hrow hle.stays)
              rw [hsz2] at this
              exact this) (fun hle k o' hk => by omega)
          exact ⟨undef, _, _, .inr ⟨exec_store ho hptr hst, rfl⟩, .p _ _ (.undef _), r1, r2, by simp⟩
      · rename_i g' es
        have hgood := h
        clear h
        generalize hnn : news = nn at hgood
        split at hgood
        case h_2 => exact hgood.elim
        rename_i a1
        subst hnn
        obtain ⟨⟨hq1, hq2, hq3, hidx⟩, hnl2, hgood⟩ := hgood
        subst hq1; subst hq2; subst hq3
        obtain ⟨hml, hgood⟩ := setAtK_out _ _ _ _ hgood
        refine ⟨_, _, _, hgood, fun μ w a hi hp => ?_⟩
        obtain ⟨mi, g1, g2⟩ := hi.at_b hob
        have hidl := get_lt hob
        have hmi : μ[m]? = some mi := by
          have g3 := g1
          simp only [Ctx.at] at g3
          rw [if_pos hidl] at g3
          exact g3
        obtain ⟨b, xs, ty, rfl, g3, g4, g5⟩ := g2.rowA
        have hptr := elt_inv (hp.get hm hx e1) g1
        have hv := (hp.get hmy hy rfl).cells hc
        have h1 := fun j x hx => hv.one hsc j x hx
        obtain rfl : 1 = n := hnl
        have hst := run_storeVar (P := P) (v := a.eval y) g3 hn (by rw [hv.1]; rfl) (show idx * 1 + 0 + 1 ≤ xs.size by omega) h1
        have hv' : CellsV ⟨blocks μ, ba.length, μ.take ba.length⟩ w (a.eval y).cells [a1] := ⟨hv.1, fun j x c hx hc => noL_take (hv.2 j x c hx hc) (by
          cases j with
          | zero => simp at hc; subst hc; exact hnl2
          | succ j => simp at hc)⟩
        obtain ⟨q1, q2⟩ := store_bufA g4 g5 hv' h1 hidx
        obtain ⟨r1, r2⟩ := hi.change (w' := w.setRow b (xs.toList.take (idx * 1 + 0) ++ (a.eval y).cells.toList ++ xs.toList.drop (idx * 1 + 0 + (a.eval y).cells.toList.length)).toArray) (ba' := ba.set m (.bufA g (es.set idx a1))) (lo' := lo) hmi (.refl _)
          (fun b' hb' => .inl hb') rfl rfl rfl (by simp) (fun b' hb' hne => setRow_other w b b' _ (fun e => hne (by rw [e]; rfl))) (by simp) rfl
          (fun j hj => by rw [List.getElem?_set_ne (fun e => hj e.symm)]) (fun k hk => rfl) (fun hle o' hlt ho' => by
            rw [List.getElem?_set] at ho'
            rw [if_pos rfl, if_pos hml] at ho'
            cases ho'
            refine .bufA b g _ _ ty _ (setRow_heap w b xs _ ty (0, 0) g3) q1 (by rw [List.length_set]; exact g4) fun j x c hx hc => ⟨(q2 j x c hx hc).1.mono hle.stays ?_, (q2 j x c hx hc).2⟩
            intro i' m' h3
            rw [List.getElem?_take] at h3
            split at h3
            · rename_i hlt'
              obtain ⟨m3, h4, h5⟩ := hle.above i' m' h3
              exact ⟨m3, by rw [List.getElem?_take, if_pos hlt']; exact h4, h5⟩
            · cases h3) (fun hle k o' hk => by omega)
        exact ⟨undef, _, _, .inr ⟨exec_store ho hptr hst, rfl⟩, .p _ _ (.undef _), r1, r2, by simp⟩
      · exact h.elim
    · exact h.elim

end ops
end Go.Proofs.YtgdimfogijfmiaaDoor.AD

namespace Go.Proofs.YtgdimfogijfmiaaDoor.AD
set_option linter.unusedVariables false
set_option linter.unusedSimpArgs false

section ops
variable {P : Program} {o : Oper} {fr : FR} {ba lo : List Ob} {K : AV → List Ob → List Ob → Prop} {d : Bool}

/-- What is appended: so many elements, as cells, whatever the world has drawn. -/
structure SrcV (P : Program) (tx : TypeId) (size n : Nat) (news : List Value) (x : Value) (w : World) : Prop where
  kind : P.underlying tx = some .string ∨ ∃ e, P.underlying tx = some (.slice e)
  len : ∀ w, (Builtin.lenOf x).run P w = .ok n w
  cells : (Builtin.firstCells size n x).run P w = .ok news.toArray w
  cells' : (Builtin.firstCells size n x).run P w.drew = .ok news.toArray w.drew

theorem run_app_room {t tx ty e : TypeId} {i : TypeInfo} (ht : P.underlying t = some (.slice e)) (hi : P.info? e = some i) {w w' : World} {base : Option Addr} {sLen sCap n : Nat} {news : List Value} {x : Value} (hs : SrcV P tx i.size n news x w) (hroom : sLen + n ≤ sCap)
    (hst : match base with | some a => (storeCells (a.add (sLen * i.size)) news).run P w = .ok () w' | none => w' = w) : (Builtin.append_ #[t, tx] ty #[.slice base sLen sCap, x]).run P w = .ok (.slice base (sLen + n) sCap) w' := by
  have h1 := hs.cells
  have h2 := hs.len w
  rcases hs.kind with hk | ⟨e', hk⟩ <;> cases base with
  | none => subst hst; simp [Builtin.append_, run_underlying ht, run_underlying hk, sizeOf, typeInfo, hi, h2, h1, hroom]
  | some a => simp [Builtin.append_, run_underlying ht, run_underlying hk, sizeOf, typeInfo, hi, h2, h1, hroom, hst]

theorem run_app_grow {t tx ty e : TypeId} {i : TypeInfo} {z : Value} (ht : P.underlying t = some (.slice e)) (hi : P.info? e = some i) (hz : i.zero = some z) {w : World} {base : Option Addr} {sLen sCap n : Nat} {olds news : List Value} {x : Value} (hs : SrcV P tx i.size n news x w) (hroom : ¬ sLen + n ≤ sCap)
    (hold : (Builtin.firstCells i.size sLen (.slice base sLen sCap)).run P w.drew = .ok olds.toArray w.drew) (hb0 : 0 < i.bytes) (hfit : (sLen + n) * i.bytes ≤ 140737488355328) :
    (Builtin.append_ #[t, tx] ty #[.slice base sLen sCap, x]).run P w = .ok (.slice (some ⟨w.heap.size, 0, none⟩) (sLen + n) (grownCap w (sLen + n) sCap e))
      (w.drew.alloc (.cells (olds.toArray ++ news.toArray ++ Builtin.zeroCells z.cells (grownCap w (sLen + n) sCap e - (sLen + n))) e)) := by
  have h1 := hs.cells'
  have h2 := hs.len w
  have hlt : sCap < sLen + n := by omega
  have h48 : ¬ (281474976710656 < Builtin.nextslicecap (sLen + n) sCap * i.bytes) := by have := growslice_fits hlt hfit; omega
  have h48' : ¬ (Builtin.nextslicecap (sLen + n) sCap * i.bytes > 2 ^ 48) := by have := growslice_fits hlt hfit; omega
  have h63 : ¬ (((sLen + n : Nat) : Int) > IntKind.i64.max ∧ (false = true ∨ i.bytes = 0)) := by rintro ⟨_, h | h⟩ <;> first | cases h | omega
  have hb1 : ¬ i.bytes = 0 := by omega
  rcases hs.kind with hk | ⟨e', hk⟩ <;> simp [Builtin.append_, run_underlying ht, run_underlying hk, sizeOf, typeInfo, zeroValue, hi, hz, h2, hroom, Question.forced, h1, hold, newRow, grownCap, h48, hb1] <;> (congr 2; apply Array.ext'; simp [List.append_assoc])

/-- A row laid anew behind an append that grows. -/
theorem grown_row {M : Nat → Prop} {w : World} {sz cap : Nat} {es ys : List PV} {olds news : List Value} {z : Array Value} (ho : olds.length = es.length * sz) (hn : news.length = ys.length * sz) (hr : RowOf M w sz (fun k => olds[k]?) es) (hy : RowOf M w sz (fun k => news[k]?) ys) (hz : z.size = sz) (hc : es.length + ys.length ≤ cap) :
    (olds.toArray ++ news.toArray ++ Builtin.zeroCells z (cap - (es.length + ys.length))).size = cap * sz ∧ RowOf M w sz (fun k => (olds.toArray ++ news.toArray ++ Builtin.zeroCells z (cap - (es.length + ys.length)))[k]?) (es ++ ys) := by
  refine ⟨?_, hr.append hy (fun k hk => ?_) fun k hk => ?_⟩
  · simp only [Array.size_append, List.size_toArray, size_zeroCells, ho, hn, hz]
    rw [← Nat.add_mul, ← Nat.add_mul]
    congr 1
    omega
  · rw [Array.getElem?_append_left (by simp; omega), Array.getElem?_append_left (by simp; omega)]
    simp
  · rw [Array.getElem?_append_left (by simp; omega), Array.getElem?_append_right (by simp; omega)]
    simp [ho]

theorem le_cap (w : World) (need old : Nat) (e : TypeId) : need ≤ grownCap w need old e := by unfold grownCap Question.cut; simp

theorem first_row {w : World} {sz b n : Nat} {es : List PV} {M : Nat → Prop} {xs : Array Value} {ty : TypeId} (hb : w.heap[b]? = some (.cells xs ty (0, 0))) (hr : RowOf M w sz (fun k => xs[k]?) es) (len cap : Nat) :
    ∃ olds : List Value, olds.length = es.length * sz ∧ (∀ (j : Nat) (u : Value), olds[j]? = some u → xs[j]? = some u) ∧ (∀ u, u ∈ olds → u.oneCell' = true) ∧ (Builtin.firstCells sz es.length (.slice (some ⟨b, 0, none⟩) len cap)).run P w = .ok olds.toArray w ∧ (Builtin.firstCells sz es.length (.slice (some ⟨b, 0, none⟩) len cap)).run P w.drew = .ok olds.toArray w.drew := by
  obtain ⟨olds, h1, h2, h3⟩ := hr.list
  refine ⟨olds, h1, h2, h3, ?_, ?_⟩
  · exact run_firstCells_some w sz es.length _ len cap olds h1 fun j v hj => by rw [add_none, Nat.zero_add, cell_of_row w b j xs ty (0, 0) hb]; exact h2 j v hj
  · exact run_firstCells_some w.drew sz es.length _ len cap olds h1 fun j v hj => by rw [add_none, Nat.zero_add, World.cell?_drew, cell_of_row w b j xs ty (0, 0) hb]; exact h2 j v hj

/-- The same row, said of its list. -/
theorem row_list {M : Nat → Prop} {w : World} {sz : Nat} {f : Nat → Option Value} {es : List PV} {l : List Value} (hr : RowOf M w sz f es) (hl : l.length = es.length * sz) (h : ∀ (j : Nat) (u : Value), l[j]? = some u → f j = some u) : RowOf M w sz (fun k => l[k]?) es :=
  hr.congr fun k hk => by
    have h1 : l[k]? = some l[k] := List.getElem?_eq_getElem (by omega)
    rw [h1, h k _ h1]

theorem appK_out {sz bytes : Nat} {x : AV} {ys : List PV} {t tx ty e : TypeId} {i : TypeInfo} {z : Value} (ht : P.underlying t = some (.slice e)) (hi : P.info? e = some i) (hz : i.zero = some z) (hsz : i.size = sz) (hby : i.bytes = bytes) (hzs : z.cells.size = sz) (h0 : 0 < bytes)
    (h : appK sz bytes x ys ba lo K) : ∃ v ba' lo', K v ba' lo' ∧ ∀ (μ : List MI) (w : World) (xv yv : Value) (news : List Value), Inv μ w ba lo → VA ⟨blocks μ, ba.length, μ⟩ w xv x → SrcV P tx sz ys.length news yv w → news.length = ys.length * sz → RowOf (blocks μ) w sz (fun k => news[k]?) ys → (∀ u, u ∈ news → u.oneCell' = true) →
      ∃ c w' μ', (Builtin.append_ #[t, tx] ty #[xv, yv]).run P w = .ok c w' ∧ VA ⟨blocks μ', ba.length, μ'⟩ w' c v ∧ Inv μ' w' ba' lo' ∧ Le μ w μ' w' ∧ ba'.length = ba.length := by
  subst hsz; subst hby
  unfold appK at h
  -- a row laid anew
  have fresh : ∀ (μ : List MI) (w : World) (C : Array Value), Inv μ w ba lo → Le μ w μ (w.drew.alloc (.cells C e)) := fun μ w C hinv => (le_drew μ w).trans (le_alloc μ (hinv.grow (le_drew μ w) fun b hb => rfl) _)
  have hroomB : ∀ n, room n i.bytes → n * i.bytes ≤ 140737488355328 := fun n hn => by unfold room at hn; omega
  -- onto an object: i0 its number
  have onto : ∀ (g len : Nat) (es : List PV), len ≤ es.length → room (len + ys.length) i.bytes → ∀ (μ : List MI) (w : World) (xv yv : Value) (news : List Value) (r : Rf) (i0 : Nat) (mi : MI), Inv μ w ba lo → μ[i0]? = some mi → Ctx.at ⟨blocks μ, ba.length, μ⟩ r = some mi → (∀ (M : Nat → Prop) (μ' : List MI), Ctx.at ⟨M, ba.length, μ'⟩ r = μ'[i0]?) → ObOk ⟨blocks μ, ba.length, μ⟩ w mi (.buf g i.size es) → VA ⟨blocks μ, ba.length, μ⟩ w xv (.view r g i.size len) → SrcV P tx i.size ys.length news yv w → news.length = ys.length * i.size → RowOf (blocks μ) w i.size (fun k => news[k]?) ys → (∀ u, u ∈ news → u.oneCell' = true) →
      ∃ c w' mi', (Builtin.append_ #[t, tx] ty #[xv, yv]).run P w = .ok c w' ∧ MI.le mi mi' ∧ (∀ b, mi'.block? = some b → mi.block? = some b ∨ w.heap.size ≤ b) ∧ w'.os = w.os ∧ w'.tape = w.tape ∧ w'.output = w.output ∧ w.heap.size ≤ w'.heap.size ∧ (∀ b, b < w.heap.size → mi.block? ≠ some b → w'.heap[b]? = w.heap[b]?) ∧
        (∀ (M : Nat → Prop) (μ' : List MI), μ'[i0]? = some mi' → VA ⟨M, ba.length, μ'⟩ w' c (.view r (g + 1) i.size (len + ys.length))) ∧ ∀ (Γ : Ctx), Stays (blocks μ) w Γ.M w' → ObOk Γ w' mi' (.buf (g + 1) i.size (es.take len ++ ys)) := by
    intro g len es hlen hroom μ w xv yv news r i0 mi hinv hmi hat hatr hob hx hs hn hy h1
    have hlt : (es.take len).length = len := by rw [List.length_take]; omega
    rcases hob.row with ⟨n', rfl, rfl⟩ | ⟨b, xs, ty', rfl, hb, hle, hr⟩
    · -- nothing yet
      obtain ⟨_, rfl, rfl⟩ | ⟨b', cap, e', _⟩ := view_inv hx hat
      case inr => cases e'
      by_cases hy0 : ys.length ≤ 0
      · have ey : ys = [] := List.length_eq_zero_iff.1 (by omega)
        subst ey
        have hrun := run_app_room (P := P) (t := t) (ty := ty) (w' := w) ht hi (base := none) (sLen := 0) (sCap := 0) hs (by simp) rfl
        refine ⟨_, w, .buf none (g + 1) n', hrun, .buf _ _ _ _ _ _ (Nat.lt_succ_self _), fun b hb => (by cases hb), rfl, rfl, rfl, Nat.le_refl _, fun b _ _ => rfl, fun M μ' hμ => ?_, fun Γ _ => ?_⟩
        · exact .view0 r (g + 1) i.size n' (by rw [hatr]; exact hμ)
        · simpa using ObOk.buf0 (Γ := Γ) (w := w) (g + 1) i.size n'
      · have hold : (Builtin.firstCells i.size 0 (.slice none 0 0)).run P w.drew = .ok (([] : List Value).toArray) w.drew := by simp [Builtin.firstCells]
        have hrun := run_app_grow (P := P) (t := t) (ty := ty) ht hi hz (base := none) (sLen := 0) (sCap := 0) (olds := []) hs (by omega) hold h0 (hroomB _ hroom)
        have hcap := le_cap w (0 + ys.length) 0 e
        generalize grownCap w (0 + ys.length) 0 e = cap at hrun hcap
        obtain ⟨q1, q2⟩ := grown_row (M := blocks μ) (w := w) (sz := i.size) (es := []) (olds := []) (z := z.cells) (cap := cap) (by simp) hn RowOf.nil hy hzs (by simpa using hcap)
        simp only [List.length_nil] at q1 q2
        generalize hC : (([] : List Value).toArray ++ news.toArray ++ Builtin.zeroCells z.cells (cap - (0 + ys.length))) = C at hrun q1 q2
        have hnew := heap_alloc_new w.drew (.cells C e)
        refine ⟨_, _, .buf (some w.heap.size) (g + 1) C.size, hrun, .buf _ _ _ _ _ _ (Nat.lt_succ_self _), fun b hb => .inr (by cases hb; exact Nat.le_refl _), rfl, rfl, rfl, by simp, fun b hb _ => heap_alloc_old w.drew _ b hb, fun M μ' hμ => ?_, fun Γ hs => ?_⟩
        · exact .view r (g + 1) i.size C.size w.heap.size _ cap (by rw [hatr]; exact hμ) (by omega) q1.symm
        · simp only [List.take_nil, List.nil_append] at q2 ⊢
          exact ObOk.of_row hnew (by rw [q1]; exact Nat.mul_le_mul_right _ (by omega)) (q2.mono hs)
    · obtain ⟨e', _, _⟩ | ⟨b', cap, e', rfl, hlc, hcs⟩ := view_inv hx hat
      case inl => cases e'
      cases e'
      have hrt := hr.take len
      obtain ⟨olds, o1, o2, o3, o4, o5⟩ := first_row (P := P) (n := 0) hb hrt len cap
      rw [hlt] at o1 o4 o5
      by_cases hrm : len + ys.length ≤ cap
      · -- there is room
        have hfit : len * i.size + news.length ≤ xs.size := by
          rw [hn, ← Nat.add_mul, ← hcs]; exact Nat.mul_le_mul_right _ hrm
        have hst := run_storeCells_at P b (len * i.size) ty' news 0 xs w hb (by simpa using hfit) h1
        simp only [Nat.add_zero] at hst
        have hrun := run_app_room (P := P) (t := t) (ty := ty) ht hi (base := some ⟨b, 0, none⟩) (sLen := len) (sCap := cap) (w' := w.setRow b (xs.toList.take (len * i.size) ++ news ++ xs.toList.drop (len * i.size + news.length)).toArray) hs hrm (by show (storeCells ((⟨b, 0, none⟩ : Addr).add (len * i.size)) news).run P w = _; rw [add_none, Nat.zero_add]; exact hst)
        have f1 : len * i.size + news.length ≤ xs.toList.length := by rw [Array.length_toList (xs := xs)]; exact hfit
        have hsz2 : (xs.toList.take (len * i.size) ++ news ++ xs.toList.drop (len * i.size + news.length)).toArray.size = xs.size := by rw [List.size_toArray, splice_len f1, Array.length_toList]
        refine ⟨_, _, .buf (some b) (g + 1) xs.size, hrun, .buf _ _ _ _ _ _ (Nat.lt_succ_self _), fun b' hb' => .inl hb', rfl, rfl, rfl, by simp, fun b' hb' hne => setRow_other w b b' _ (fun e => hne (by rw [e]; rfl)), fun M μ' hμ => ?_, fun Γ hs => ?_⟩
        · exact .view r (g + 1) i.size xs.size b _ cap (by rw [hatr]; exact hμ) hrm hcs
        · have hrow : RowOf Γ.M (w.setRow b (xs.toList.take (len * i.size) ++ news ++ xs.toList.drop (len * i.size + news.length)).toArray) i.size (fun k => (xs.toList.take (len * i.size) ++ news ++ xs.toList.drop (len * i.size + news.length)).toArray[k]?) (es.take len ++ ys) := by
            refine (hrt.mono hs).append (hy.mono hs) (fun k hk => ?_) fun k hk => ?_
            · rw [hlt] at hk
              rw [arr_splice_get f1, if_neg (by omega)]; simp
            · rw [hlt, arr_splice_get f1, if_pos (by omega), show len * i.size + k - len * i.size = k by omega]
          have := ObOk.of_row (Γ := Γ) (g := g + 1) (setRow_heap w b xs (xs.toList.take (len * i.size) ++ news ++ xs.toList.drop (len * i.size + news.length)).toArray ty' (0, 0) hb) (by rw [hsz2, List.length_append, hlt, ← hcs]; exact Nat.mul_le_mul_right _ hrm) hrow
          rw [hsz2] at this
          exact this
      · have hrun := run_app_grow (P := P) (t := t) (ty := ty) ht hi hz (base := some ⟨b, 0, none⟩) (sLen := len) (sCap := cap) (olds := olds) hs hrm o5 h0 (hroomB _ hroom)
        have hcap := le_cap w (len + ys.length) cap e
        generalize grownCap w (len + ys.length) cap e = cap2 at hrun hcap
        obtain ⟨q1, q2⟩ := grown_row (M := blocks μ) (w := w) (sz := i.size) (es := es.take len) (olds := olds) (z := z.cells) (cap := cap2) (by rw [hlt]; exact o1) hn (row_list hrt (by rw [hlt]; exact o1) o2) hy hzs (by rw [hlt]; exact hcap)
        rw [hlt] at q1 q2
        generalize hC : (olds.toArray ++ news.toArray ++ Builtin.zeroCells z.cells (cap2 - (len + ys.length))) = C at hrun q1 q2
        have hnew := heap_alloc_new w.drew (.cells C e)
        refine ⟨_, _, .buf (some w.heap.size) (g + 1) C.size, hrun, .buf _ _ _ _ _ _ (Nat.lt_succ_self _), fun b hb => .inr (by cases hb; exact Nat.le_refl _), rfl, rfl, rfl, by simp, fun b hb _ => heap_alloc_old w.drew _ b hb, fun M μ' hμ => ?_, fun Γ hs => ?_⟩
        · exact .view r (g + 1) i.size C.size w.heap.size _ cap2 (by rw [hatr]; exact hμ) (by omega) q1.symm
        · exact ObOk.of_row hnew (by rw [q1, List.length_append, hlt]; exact Nat.mul_le_mul_right _ (by omega)) (q2.mono hs)
  split at h
  · -- nil
    obtain ⟨hroom, h⟩ := h
    rw [pushK_eq] at h
    refine ⟨_, _, _, h, fun μ w xv yv news hinv hx hs hn hy h1 => ?_⟩
    have hx := hx.pv
    cases hx
    by_cases hy0 : ys.length ≤ 0
    · have ey : ys = [] := List.length_eq_zero_iff.1 (by omega)
      subst ey
      have hrun := run_app_room (P := P) (t := t) (ty := ty) (w' := w) ht hi (base := none) (sLen := 0) (sCap := 0) hs (by simp) rfl
      obtain ⟨p1, p2, p3⟩ := hinv.push (w' := w) (.buf none 0 0) (.buf 0 i.size []) (fun b hb => by cases hb) rfl rfl rfl (Nat.le_refl _) (fun b hb => rfl) fun hle => .buf0 _ _ _
      exact ⟨_, w, _, hrun, .view0 _ 0 i.size 0 p3, p1, p2, rfl⟩
    · have hold : (Builtin.firstCells i.size 0 (.slice none 0 0)).run P w.drew = .ok (([] : List Value).toArray) w.drew := by simp [Builtin.firstCells]
      have hrun := run_app_grow (P := P) (t := t) (ty := ty) ht hi hz (base := none) (sLen := 0) (sCap := 0) (olds := []) hs (by omega) hold h0 (by rw [Nat.zero_add]; exact hroomB _ hroom)
      have hcap := le_cap w (0 + ys.length) 0 e
      generalize grownCap w (0 + ys.length) 0 e = cap at hrun hcap
      obtain ⟨q1, q2⟩ := grown_row (M := blocks μ) (w := w) (sz := i.size) (es := []) (olds := []) (z := z.cells) (cap := cap) (by simp) hn RowOf.nil hy hzs (by simpa using hcap)
      simp only [List.length_nil] at q1 q2
      generalize hC : (([] : List Value).toArray ++ news.toArray ++ Builtin.zeroCells z.cells (cap - (0 + ys.length))) = C at hrun q1 q2
      have hnew := heap_alloc_new w.drew (.cells C e)
      obtain ⟨p1, p2, p3⟩ := hinv.push (w' := w.drew.alloc (.cells C e)) (.buf (some w.heap.size) 0 C.size) (.buf 0 i.size ys) (fun b hb => by cases hb; exact Nat.le_refl _) rfl rfl rfl (by simp) (fun b hb => heap_alloc_old w.drew _ b hb) fun hle =>
        ObOk.of_row hnew (by rw [q1]; exact Nat.mul_le_mul_right _ (by omega)) (by simpa using q2.mono hle.stays)
      rw [Nat.zero_add] at hrun
      exact ⟨_, _, _, hrun, .view _ 0 i.size C.size w.heap.size _ cap p3 (by omega) q1.symm, p1, p2, rfl⟩
  · -- empty, with no room
    split at h
    · refine ⟨_, _, _, h, fun μ w xv yv news hinv hx hs hn hy h1 => ?_⟩
      have hx := hx.pv
      cases hx with
      | emp A =>
      obtain rfl : news = [] := List.length_eq_zero_iff.1 (by simpa using hn)
      have hrun := run_app_room (P := P) (t := t) (ty := ty) (w' := w) ht hi (base := A) (sLen := 0) (sCap := 0) hs (by simp) (by cases A <;> rfl)
      exact ⟨_, w, μ, hrun, .p _ _ (.emp A), hinv, .refl _ _, rfl⟩
    · rename_i y0 r0
      obtain ⟨hroom, h⟩ := h
      rw [pushK_eq] at h
      refine ⟨_, _, _, h, fun μ w xv yv news hinv hx hs hn hy h1 => ?_⟩
      have hx := hx.pv
      cases hx with
      | emp A =>
      have hold : (Builtin.firstCells i.size 0 (.slice A 0 0)).run P w.drew = .ok (([] : List Value).toArray) w.drew := by
        cases A with
        | none => simp [Builtin.firstCells]
        | some ad => exact run_firstCells_some w.drew i.size 0 ad 0 0 [] (by simp) fun j u hj => by simp at hj
      have hrun := run_app_grow (P := P) (t := t) (ty := ty) ht hi hz (base := A) (sLen := 0) (sCap := 0) (olds := []) hs (by simp) hold h0 (by rw [Nat.zero_add]; exact hroomB _ hroom)
      have hcap := le_cap w (0 + (y0 :: r0).length) 0 e
      generalize grownCap w (0 + (y0 :: r0).length) 0 e = cap at hrun hcap
      obtain ⟨q1, q2⟩ := grown_row (M := blocks μ) (w := w) (sz := i.size) (es := []) (olds := []) (z := z.cells) (cap := cap) (by simp) hn RowOf.nil hy hzs (by simpa using hcap)
      simp only [List.length_nil] at q1 q2
      generalize hC : (([] : List Value).toArray ++ news.toArray ++ Builtin.zeroCells z.cells (cap - (0 + (y0 :: r0).length))) = C at hrun q1 q2
      have hnew := heap_alloc_new w.drew (.cells C e)
      obtain ⟨p1, p2, p3⟩ := hinv.push (w' := w.drew.alloc (.cells C e)) (.buf (some w.heap.size) 0 C.size) (.buf 0 i.size (y0 :: r0)) (fun b hb => by cases hb; exact Nat.le_refl _) rfl rfl rfl (by simp) (fun b hb => heap_alloc_old w.drew _ b hb) fun hle =>
        ObOk.of_row hnew (by rw [q1]; exact Nat.mul_le_mul_right _ (by omega)) (by simpa using q2.mono hle.stays)
      rw [Nat.zero_add] at hrun
      exact ⟨_, _, _, hrun, .view _ 0 i.size C.size w.heap.size _ cap p3 (by simp only [List.length_cons] at hcap ⊢; omega) q1.symm, p1, p2, rfl⟩
  · rename_i m g sz' len
    obtain ⟨o', ho', h⟩ := atK_out _ _ _ h
    split at h
    · rename_i g' sz'' es
      obtain ⟨⟨e1, e2, e3, hlen⟩, hroom, zs, ez, h⟩ := h
      obtain ⟨hml, h⟩ := setAtK_out _ _ _ _ h
      subst e1; subst e2; subst e3; subst ez
      refine ⟨_, _, _, h, fun μ w xv yv news hinv hx hs hn hy h1 => ?_⟩
      obtain ⟨mi, g1, g2⟩ := hinv.at_l ho'
      obtain ⟨c, w', mi', k1, k2, k3, k4, k5, k6, k7, k8, k9, k10⟩ := onto g len es hlen hroom μ w xv yv news (.l m) (ba.length + m) mi hinv g1 g1 (fun _ _ => rfl) g2 hx hs hn hy h1
      have hmi : μ[ba.length + m]? = some mi := g1
      obtain ⟨r1, r2⟩ := hinv.change (i := ba.length + m) (w' := w') (ba' := ba) (lo' := lo.set m (.buf (g + 1) i.size (es.take len ++ ys))) hmi k2 k3 k4 k5 k6 k7 k8 rfl (by simp) (fun j hj => rfl)
        (fun k hk => by rw [List.getElem?_set_ne (by omega)]) (fun hle o' hlt => by omega) (fun hle k o' hk ho' => by
          have hk' : k = m := by omega
          subst hk'
          rw [List.getElem?_set, if_pos rfl, if_pos hml] at ho'
          cases ho'
          exact k10 _ hle.stays)
      refine ⟨c, w', _, k1, k9 _ _ ?_, r1, r2, rfl⟩
      rw [List.getElem?_set, if_pos rfl, if_pos (get_lt g1)]
    · exact h.elim
  · rename_i id g sz' len
    obtain ⟨ob, ho', h⟩ := atK_out _ _ _ h
    cases ob <;> first | exact (show False from h).elim | skip
    rename_i g' sz'' es
    obtain ⟨⟨e1, e2, e3, hlen⟩, hroom, zs, ez, h⟩ := h
    subst e1; subst e2; subst e3; subst ez
    obtain ⟨_, h⟩ := setAtK_out _ _ _ _ h
    refine ⟨_, _, _, h, fun μ w xv yv news hinv hx hs hn hy h1 => ?_⟩
    obtain ⟨mi, g1, g2⟩ := hinv.at_b ho'
    have hidl := get_lt ho'
    have hmi : μ[id]? = some mi := by
      have g3 := g1
      simp only [Ctx.at] at g3
      rw [if_pos hidl] at g3
      exact g3
    obtain ⟨c, w', mi', k1, k2, k3, k4, k5, k6, k7, k8, k9, k10⟩ := onto g len es hlen hroom μ w xv yv news (.b id) id mi hinv hmi g1 (fun M μ' => by simp only [Ctx.at]; rw [if_pos hidl]) g2.of_take hx hs hn hy h1
    obtain ⟨r1, r2⟩ := hinv.change (w' := w') (ba' := ba.set id (.buf (g + 1) i.size (es.take len ++ ys))) (lo' := lo) hmi k2 k3 k4 k5 k6 k7 k8 (by simp) rfl (fun j hj => by rw [List.getElem?_set_ne (fun e => hj e.symm)])
      (fun k hk => rfl) (fun hle o' hlt ho' => by
        rw [List.getElem?_set, if_pos rfl, if_pos hidl] at ho'
        cases ho'
        exact k10 _ hle.stays) (fun hle k o' hk => by omega)
    refine ⟨c, w', _, k1, k9 _ _ ?_, r1, r2, by simp⟩
    rw [List.getElem?_set, if_pos rfl, if_pos (get_lt hmi)]
  · exact h.elim

theorem s_app {t tx e : TypeId} {x y : Operand} {rx ry : Rv} {i : TypeInfo} {z : Value} (ho : o.op = .call { callee := .builtin .append, args := #[x, y], argTypes := #[t, tx] }) (ht : P.underlying t = some (.slice e)) (hi : P.info? e = some i) (hz : i.zero = some z) (hzs : z.cells.size = i.size) (h0 : 0 < i.bytes)
    {e' : TypeId} (htx : P.underlying tx = some (.slice e')) (hx : rv x = some rx) (hy : rv y = some ry) (h : opV P d (.app i.size i.bytes rx ry) fr ba lo K) : Sound1 P o fr ba lo K := by
  have hm : x ∈ o.op.operands.toList := by simp [ho, Op.operands, Call.operands]
  have hmy : y ∈ o.op.operands.toList := by simp [ho, Op.operands, Call.operands]
  simp only [opV, evK_eq] at h
  obtain ⟨ys, h, hc⟩ := contK_out (P := P) h
  obtain ⟨v, ba', lo', hk, hs⟩ := appK_out (P := P) (tx := tx) (ty := o.type) ht hi hz rfl rfl hzs h0 h
  refine ⟨v, ba', lo', hk, fun μ w a hinv hp => ?_⟩
  obtain ⟨A, c, h1, h2, h3, h4⟩ := hc μ w _ hinv (hp.get hmy hy rfl)
  obtain ⟨news, n1, n2, n3⟩ := h2.list
  have hfc : ∀ w', (∀ k, w'.cell? k = w.cell? k) → (Builtin.firstCells i.size ys.length (a.eval y)).run P w' = .ok news.toArray w' := fun w' hw => by
    rw [h1]
    cases A with
    | none =>
      have := h3 rfl
      subst this
      have : news = [] := List.length_eq_zero_iff.1 (by simpa using n1)
      subst this
      simp [Builtin.firstCells]
    | some ad => exact run_firstCells_some w' i.size ys.length ad ys.length c news n1 fun j u hj => by rw [hw]; exact n2 j u hj
  obtain ⟨cv, w', μ', g1, g2, g3, g4, g5⟩ := hs μ w (a.eval x) (a.eval y) news hinv (hp.get hm hx rfl) ⟨.inr ⟨e', htx⟩, fun w => by rw [h1]; rfl, hfc w fun _ => rfl, hfc w.drew fun _ => rfl⟩ n1 (row_list h2 n1 n2) n3
  exact ⟨cv, w', μ', .inl (by simp [execOp, ho, resolve, invoke, builtin, g1]), g2, g3, g4, g5⟩

/-- A list of the call's own that is written no more. -/
theorem Inv.freeze {μ : List MI} {w : World} {ba lo : List Ob} (hi : Inv μ w ba lo) {m g sz len : Nat} {es : List PV} (ho : lo[m]? = some (.buf g sz es)) (hl : len ≤ es.length) {v : Value} (hv : VA ⟨blocks μ, ba.length, μ⟩ w v (.view (.l m) g sz len)) :
    Inv (μ.set (ba.length + m) .gone) w ba (lo.set m .gone) ∧ Le μ w (μ.set (ba.length + m) .gone) w ∧ VP (blocks (μ.set (ba.length + m) .gone)) w v (.list sz (es.take len)) := by
  obtain ⟨mi, h1, h2⟩ := hi.at_l ho
  have hmi : μ[ba.length + m]? = some mi := h1
  have hle : MI.le mi .gone := by
    rcases h2.row with ⟨n, rfl, rfl⟩ | ⟨b, xs, t, rfl, h3, h4, h5⟩ <;> exact .goneB _ _ _
  have hml := get_lt ho
  obtain ⟨r1, r2⟩ := hi.change (i := ba.length + m) (w' := w) (ba' := ba) (lo' := lo.set m .gone) hmi hle (fun b hb => by cases hb) rfl rfl rfl (Nat.le_refl _) (fun b _ _ => rfl) rfl (by simp) (fun j hj => rfl)
    (fun k hk => by rw [List.getElem?_set_ne (by omega)]) (fun hle o' hlt => by omega) (fun hle k o' hk ho' => by
      have hk' : k = m := by omega
      subst hk'
      rw [List.getElem?_set, if_pos rfl, if_pos hml] at ho'
      cases ho'
      exact .gone)
  refine ⟨r1, r2, ?_⟩
  rcases h2.row with ⟨n, rfl, rfl⟩ | ⟨b, xs, t, rfl, h3, h4, h5⟩
  · rcases view_inv hv h1 with ⟨_, rfl, rfl⟩ | ⟨_, _, h6, _⟩
    · simpa using VP.list0 _ none 0 fun _ => rfl
    · cases h6
  · rcases view_inv hv h1 with ⟨h6, _⟩ | ⟨b', cap, h6, rfl, h7, h8⟩
    · cases h6
    · cases h6
      have hr := ((row_at h3 h5).take len).mono r2.stays
      have hnb : ¬ blocks (μ.set (ba.length + m) .gone) b := fun ⟨i, m', q1, q2⟩ => by
        rw [List.getElem?_set] at q1
        by_cases e : ba.length + m = i
        · rw [if_pos e] at q1
          split at q1
          · cases q1; cases q2
          · cases q1
        · rw [if_neg e] at q1
          exact e (hi.apart (ba.length + m) i _ m' b hmi q1 rfl q2)
      have := VP.of_row (cap := cap) hr hnb (aget_lt h3) (by rw [List.length_take]; omega)
      rwa [List.length_take, Nat.min_eq_left hl] at this

theorem s_appF {t tx e : TypeId} {x y : Operand} {rx ry : Rv} {i : TypeInfo} {z : Value} (ho : o.op = .call { callee := .builtin .append, args := #[x, y], argTypes := #[t, tx] }) (ht : P.underlying t = some (.slice e)) (hi : P.info? e = some i) (hz : i.zero = some z) (hzs : z.cells.size = i.size) (h0 : 0 < i.bytes)
    {e' : TypeId} (htx : P.underlying tx = some (.slice e')) (hx : rv x = some rx) (hy : rv y = some ry) (h : opV P d (.appF i.size i.bytes rx ry) fr ba lo K) : Sound1 P o fr ba lo K := by
  simp only [opV, evK_eq] at h
  have h2 : opV P d (.app i.size i.bytes rx ry) fr ba lo fun v b l => ∃ (m g len : Nat) (zs : List PV), v = .view (.l m) g i.size len ∧ b = ba ∧ l[m]? = some (.buf g i.size zs) ∧ len = zs.length ∧ K (.p (.list i.size zs)) ba (l.set m .gone) := by
    simp only [opV, evK_eq]
    refine contK_mono h fun ys h => ?_
    split at h
    · rename_i m g sz' len e1
      obtain ⟨o', ho', h⟩ := atK_out _ _ _ h
      cases o' <;> first | exact (show False from h).elim | skip
      rename_i g' sz'' es
      obtain ⟨⟨rfl, rfl, rfl, hlen⟩, hroom, zs, rfl, h⟩ := h
      obtain ⟨hml, h⟩ := setAtK_out _ _ _ _ h
      rw [e1]
      refine atK_in _ _ _ _ ho' ⟨⟨rfl, rfl, rfl, hlen⟩, hroom, _, rfl, setAtK_in _ _ _ _ hml ⟨m, g + 1, _, es.take len ++ ys, rfl, rfl, ?_, ?_, ?_⟩⟩
      · rw [List.getElem?_set, if_pos rfl, if_pos hml]
      · rw [List.length_append, List.length_take, Nat.min_eq_left hlen]
      · rw [List.set_set]; exact h
    · exact h.elim
  obtain ⟨v, ba', lo', ⟨m, g, len, zs, rfl, rfl, hl, rfl, hk⟩, hs⟩ := s_app (K := fun v b l => ∃ (m g len : Nat) (zs : List PV), v = .view (.l m) g i.size len ∧ b = ba ∧ l[m]? = some (.buf g i.size zs) ∧ len = zs.length ∧ K (.p (.list i.size zs)) ba (l.set m .gone)) ho ht hi hz hzs h0 htx hx hy h2
  refine ⟨_, _, _, hk, fun μ w a hinv hp => ?_⟩
  obtain ⟨cv, w', μ', g1, g2, g3, g4, g5⟩ := hs μ w a hinv hp
  obtain ⟨f1, f2, f3⟩ := g3.freeze hl (Nat.le_refl _) g2
  rw [List.take_length] at f3
  exact ⟨cv, w', _, g1, .p _ _ f3, f1, g4.trans f2, rfl⟩

theorem s_appS {t tx e : TypeId} {x y : Operand} {rx ry : Rv} {i : TypeInfo} {z : Value} (ho : o.op = .call { callee := .builtin .append, args := #[x, y], argTypes := #[t, tx] }) (ht : P.underlying t = some (.slice e)) (hi : P.info? e = some i) (hz : i.zero = some z) (hzs : z.cells.size = i.size) (h1 : i.size = 1) (h2 : i.bytes = 1)
    (htx : P.underlying tx = some .string) (hx : rv x = some rx) (hy : rv y = some ry) (h : opV P d (.appS rx ry) fr ba lo K) : Sound1 P o fr ba lo K := by
  have hm : x ∈ o.op.operands.toList := by simp [ho, Op.operands, Call.operands]
  have hmy : y ∈ o.op.operands.toList := by simp [ho, Op.operands, Call.operands]
  simp only [opV, evK_eq] at h
  split at h
  · rename_i s e1
    obtain ⟨v, ba', lo', hk, hs⟩ := appK_out (P := P) (tx := tx) (ty := o.type) ht hi hz h1 h2 (by rw [hzs, h1]) (by decide) h
    refine ⟨v, ba', lo', hk, fun μ w a hinv hp => ?_⟩
    have hys := (hp.get hmy hy e1).str_inv
    have hb : ∀ j (u : Value), (s.data.toList.map fun (b : UInt8) => Value.int .u8 (b.toNat : Int))[j]? = some u → ∃ b : UInt8, s.data.toList[j]? = some b ∧ u = .int .u8 b.toNat := fun j u hu => by
      rw [List.getElem?_map] at hu
      obtain ⟨b, h3, h4⟩ := Option.map_eq_some_iff.1 hu
      exact ⟨b, h3, h4.symm⟩
    have hfc : ∀ w', (Builtin.firstCells 1 (byteInts s).length (a.eval y)).run P w' = .ok (s.data.toList.map fun (b : UInt8) => Value.int .u8 (b.toNat : Int)).toArray w' := fun w' => by
      rw [hys, byteInts_length]
      simp only [Builtin.firstCells, Sem.run_pure]
      congr 1
      apply Array.ext'
      simp
    obtain ⟨cv, w', μ', g1, g2, g3, g4, g5⟩ := hs μ w (a.eval x) (a.eval y) (s.data.toList.map fun (b : UInt8) => Value.int .u8 (b.toNat : Int)) hinv (hp.get hm hx rfl) ⟨.inl htx, fun w => by rw [hys, byteInts_length]; rfl, hfc w, hfc w.drew⟩ (by rw [byteInts_length]; simp)
      ⟨fun j => ((s.data.toList.map fun (b : UInt8) => Value.int .u8 (b.toNat : Int))[j]?).getD undef, fun j e he => by
          simp only [byteInts, List.getElem?_map] at he ⊢
          obtain ⟨b, h3, rfl⟩ := Option.map_eq_some_iff.1 he
          rw [h3]; rfl, fun j e he k u hu => by
          simp only [byteInts, List.getElem?_map] at he hu ⊢
          obtain ⟨b, h3, rfl⟩ := Option.map_eq_some_iff.1 he
          rw [h3] at hu
          cases k with
          | zero =>
            simp [Value.cells] at hu
            subst hu
            refine ⟨rfl, ?_⟩
            rw [Nat.mul_one, Nat.add_zero, h3]; rfl
          | succ k => simp [Value.cells] at hu, fun j e he => by
          simp only [byteInts, List.getElem?_map] at he ⊢
          obtain ⟨b, h3, rfl⟩ := Option.map_eq_some_iff.1 he
          rw [h3]; exact .int _ _⟩ (fun u hu => by
          obtain ⟨b, _, rfl⟩ := List.mem_map.1 hu
          rfl)
    exact ⟨cv, w', μ', .inl (by simp [execOp, ho, resolve, invoke, builtin, g1]), g2, g3, g4, g5⟩
  · exact h.elim

end ops
end Go.Proofs.YtgdimfogijfmiaaDoor.AD

namespace Go.Proofs.YtgdimfogijfmiaaDoor.AD
open Go.MapKept
set_option linter.unusedVariables false
set_option linter.unusedSimpArgs false

section ops
variable {P : Program} {o : Oper} {fr : FR} {ba lo : List Ob} {K : AV → List Ob → List Ob → Prop} {d : Bool}

theorem map_some {α β : Type} {x : Option α} {f : α → β} {y : β} (h : x.map f = some y) : ∃ a, x = some a ∧ f a = y := Option.map_eq_some_iff.1 h

def keyD : Option IntKind → TypeDesc
  | none => .string
  | some k => .int k

theorem keyT_out {t : TypeId} {kk : Option IntKind} (h : keyT P t = some kk) : P.underlying t = some (keyD kk) := by
  unfold keyT at h
  split at h
  · cases h; assumption
  · cases h; assumption
  · cases h

theorem key_is {kk : Option IntKind} {k : PV} (h : keyOk kk k = true) {M : Nat → Prop} {w : World} {v : Value} (hv : VP M w v k) : IsKey (keyD kk) v := by
  unfold keyOk at h
  split at h
  · cases hv; exact trivial
  · rename_i j i n
    cases hv
    exact beq_iff_eq.1 h
  · cases h

theorem sameKey_now {kk : Option IntKind} {a b : PV} (ha : keyOk kk a = true) (hb : keyOk kk b = true) {M : Nat → Prop} {w : World} {x y : Value} (hx : VP M w x a) (hy : VP M w y b) {r : Bool} (h : sameKey a b = some r) : Instr.sameNow (keyD kk) x y = some r := by
  unfold sameKey at h
  split at h
  · rename_i s t
    cases hx; cases hy
    cases h
    cases kk with
    | none =>
      simp only [keyD, Instr.sameNow]
      congr 1
      by_cases e : s = t
      · subst e; rw [decide_eq_true rfl]; exact (bytes_beq s s).2 rfl
      · rw [decide_eq_false e]
        cases hb : (s == t) with
        | true => exact absurd ((bytes_beq s t).1 hb) e
        | false => rfl
    | some j => simp [keyOk] at ha
  · rename_i j1 n j2 m
    cases hx; cases hy
    cases h
    cases kk with
    | none => simp [keyOk] at ha
    | some j =>
      have e1 : j1 = j := beq_iff_eq.1 ha
      have e2 : j2 = j := beq_iff_eq.1 hb
      subst e1; subst e2
      simp [keyD, Instr.sameNow]
      rfl
  · cases h

/-- What was found, and what is told of it. -/
def foundV (z : Value) (r : Option (Nat × Value)) : Value :=
  match r with
  | some (_, v) => v
  | none => z
def FoundR (M : Nat → Prop) (w : World) (q : Option PV) (r : Option (Nat × Value)) : Prop :=
  match q, r with
  | none, none => True
  | some v, some (_, y) => VP M w y v
  | _, _ => False

theorem find_out {kk : Option IntKind} {k : PV} (hk : keyOk kk k = true) {M : Nat → Prop} {w : World} {kv : Value} (hkv : VP M w kv k) : ∀ (es : List (PV × PV)) (l : List MapEntry) (i : Nat) (q : Option PV), l.length = es.length →
    (∀ (j : Nat) (x : MapEntry) (e : PV × PV), l[j]? = some x → es[j]? = some e → VP M w x.key e.1 ∧ VP M w x.val e.2) → mfind kk k es = some q →
    ∃ r : Option (Nat × Value), Instr.findNow (keyD kk) kv l i = some r ∧ FoundR M w q r
  | [], l, i, q, hl, h, hq => by
    obtain rfl : l = [] := List.length_eq_zero_iff.1 hl
    cases hq
    exact ⟨none, rfl, trivial⟩
  | (c, v) :: r, [], i, q, hl, h, hq => by cases hl
  | (c, v) :: r, x :: l, i, q, hl, h, hq => by
    obtain ⟨h1, h2⟩ := h 0 x (c, v) rfl rfl
    simp only [mfind] at hq
    split at hq
    · rename_i e1 e2
      cases hq
      have := sameKey_now hk e1 hkv h1 e2
      exact ⟨some (i, x.val), by simp [Instr.findNow, this], h2⟩
    · rename_i e1 e2
      have := sameKey_now hk e1 hkv h1 e2
      obtain ⟨r', g1, g2⟩ := find_out hk hkv r l (i + 1) q (by simpa using hl) (fun j y e hy he => h (j + 1) y e (by simpa using hy) (by simpa using he)) hq
      exact ⟨r', by simp [Instr.findNow, this, g1], g2⟩
    · cases hq

theorem zero_run {et : TypeId} {z : Value} (h : (P.info? et).bind (·.zero) = some z) (w : World) : (zeroValue et).run P w = .ok z w := by
  obtain ⟨i, h1, h2⟩ := Option.bind_eq_some_iff.1 h
  simp [zeroValue, typeInfo, h1, h2]

theorem s_mkmap {t : TypeId} (ho : o.op = .makeMap t none) (h : opV P d .mkmap fr ba lo K) : Sound1 P o fr ba lo K := by
  simp only [opV, pushK_eq] at h
  refine ⟨_, _, _, h, fun μ w a hi hp => ?_⟩
  obtain ⟨h3, h4, h5⟩ := hi.push (w' := w.alloc (.map #[] 0)) (.map w.heap.size) (.map []) (fun b hb => by cases hb; exact Nat.le_refl _) rfl rfl rfl (by simp) (fun b hb => heap_alloc_old w _ b hb) fun hle =>
    .map _ 0 #[] [] (heap_alloc_new w _) rfl (fun j x e hx => by simp at hx) rfl fun j x hx => by simp at hx
  exact ⟨.map (some w.heap.size), _, _, .inl (by simp [execOp, ho, run_makeMap_plain]), .mapr _ _ h5, h3, h4, rfl⟩

theorem s_mkmapA {t : TypeId} (ho : o.op = .makeMap t none) (h : opV P d .mkmapA fr ba lo K) : Sound1 P o fr ba lo K := by
  simp only [opV, pushK_eq] at h
  refine ⟨_, _, _, h, fun μ w a hi hp => ?_⟩
  obtain ⟨h3, h4, h5⟩ := hi.push (w' := w.alloc (.map #[] 0)) (.map w.heap.size) (.mapA [] []) (fun b hb => by cases hb; exact Nat.le_refl _) rfl rfl rfl (by simp) (fun b hb => heap_alloc_old w _ b hb) fun hle =>
    .mapA _ 0 #[] [] [] (heap_alloc_new w _) rfl rfl (fun j x e hx => by simp at hx) fun j x e hx => by simp at hx
  exact ⟨.map (some w.heap.size), _, _, .inl (by simp [execOp, ho, run_makeMap_plain]), .mapr _ _ h5, h3, h4, rfl⟩

theorem s_mkmapH {t kt et : TypeId} {r : Operand} {rr : Rv} (ho : o.op = .makeMap t (some r)) (ht : P.underlying t = some (.map kt et)) (hr : rv r = some rr) (h : opV P d (.mkmapH rr) fr ba lo K) : Sound1 P o fr ba lo K := by
  have hm : r ∈ o.op.operands.toList := by simp [ho, Op.operands]
  simp only [opV, evK_eq, pushK_eq] at h
  split at h
  · rename_i k n e1
    refine ⟨_, _, _, h, fun μ w a hi hp => ?_⟩
    have hv := (hp.get hm hr e1).int_inv
    obtain ⟨h3, h4, h5⟩ := hi.push (w' := w.alloc (.map #[] 0)) (.map w.heap.size) (.map []) (fun b hb => by cases hb; exact Nat.le_refl _) rfl rfl rfl (by simp) (fun b hb => heap_alloc_old w _ b hb) fun hle =>
      .map _ 0 #[] [] (heap_alloc_new w _) rfl (fun j x e hx => by simp at hx) rfl fun j x hx => by simp at hx
    refine ⟨.map (some w.heap.size), _, _, .inl ?_, .mapr _ _ h5, h3, h4, rfl⟩
    simp [execOp, ho, hv, Instr.makeMap, run_underlying ht, asInt, newObj, asInt_run, Result.andThen]
    rfl
  · exact h.elim

theorem mapr_invB {Γ : Ctx} {w : World} {v : Value} {r : Rf} {b : Nat} (h : VA Γ w v (.mapr r)) (hm : Γ.at r = some (.map b)) : v = .map (some b) := by
  cases h with
  | mapr r b' h => rw [hm] at h; cases h; rfl
  | maprGone v r h _ => rw [hm] at h; cases h
theorem mapr_inv {Γ : Ctx} {w : World} {v : Value} {r : Rf} {m : MI} (h : VA Γ w v (.mapr r)) (hm : Γ.at r = some m) {es : List (PV × PV)} {Γ' : Ctx} (hok : ObOk Γ' w m (.map es)) : ∃ b, m = .map b ∧ v = .map (some b) := by
  cases hok with
  | map b clock xs es _ _ _ _ _ => exact ⟨b, rfl, mapr_invB h hm⟩

/-- A map whose values may be the call's own, in its parts. -/
theorem ObOk.amap {Γ : Ctx} {w : World} {m : MI} {ks : List PV} {vs : List AV} (h : ObOk Γ w m (.mapA ks vs)) : ∃ b clock xs, m = .map b ∧ w.heap[b]? = some (.map xs clock) ∧ xs.size = ks.length ∧ ks.length = vs.length ∧
    (∀ (j : Nat) (x : MapEntry) (e : PV), xs[j]? = some x → ks[j]? = some e → VP Γ.M w x.key e) ∧ ∀ (j : Nat) (x : MapEntry) (c : AV), xs[j]? = some x → vs[j]? = some c → VA Γ w x.val c := by
  cases h with
  | mapA b clock xs ks vs h1 h2 h3 h4 h5 => exact ⟨b, clock, xs, rfl, h1, h2, h3, h4, h5⟩

def FoundA (Γ : Ctx) (w : World) (q : Option AV) (r : Option (Nat × Value)) : Prop :=
  match q, r with
  | none, none => True
  | some v, some (_, y) => VA Γ w y v
  | _, _ => False

theorem afind_out {kk : Option IntKind} {k : PV} (hk : keyOk kk k = true) {M : Nat → Prop} {Γ : Ctx} {w : World} {kv : Value} (hkv : VP M w kv k) : ∀ (ks : List PV) (vs : List AV) (l : List MapEntry) (i : Nat) (q : Option AV), l.length = ks.length →
    (∀ (j : Nat) (x : MapEntry) (e : PV), l[j]? = some x → ks[j]? = some e → VP M w x.key e) → (∀ (j : Nat) (x : MapEntry) (c : AV), l[j]? = some x → vs[j]? = some c → VA Γ w x.val c) → afind kk k ks vs = some q →
    ∃ r : Option (Nat × Value), Instr.findNow (keyD kk) kv l i = some r ∧ FoundA Γ w q r
  | [], _, l, i, q, hl, h, h', hq => by
    obtain rfl : l = [] := List.length_eq_zero_iff.1 hl
    cases hq
    exact ⟨none, rfl, trivial⟩
  | c :: r, v :: vs, [], i, q, hl, h, h', hq => by cases hl
  | c :: r, [], l, i, q, hl, h, h', hq => by cases hq
  | c :: r, v :: vs, x :: l, i, q, hl, h, h', hq => by
    have h1 := h 0 x c rfl rfl
    have h2 := h' 0 x v rfl rfl
    simp only [afind] at hq
    split at hq
    · rename_i e1 e2
      cases hq
      have := sameKey_now hk e1 hkv h1 e2
      exact ⟨some (i, x.val), by simp [Instr.findNow, this], h2⟩
    · rename_i e1 e2
      have := sameKey_now hk e1 hkv h1 e2
      obtain ⟨r', g1, g2⟩ := afind_out hk hkv r vs l (i + 1) q (by simpa using hl) (fun j y e hy he => h (j + 1) y e (by simpa using hy) (by simpa using he)) (fun j y e hy he => h' (j + 1) y e (by simpa using hy) (by simpa using he)) hq
      exact ⟨r', by simp [Instr.findNow, this, g1], g2⟩
    · cases hq

theorem s_look {t kt et : TypeId} {x i : Operand} {ok : Bool} {rx ri : Rv} {kk : Option IntKind} {z : Value} {z' : PV} (ho : o.op = .lookup t x i ok) (ht : P.underlying t = some (.map kt et)) (hk : keyT P kt = some kk) (hz : (P.info? et).bind (·.zero) = some z) (hz' : absZ z = some z')
    (hx : rv x = some rx) (hi : rv i = some ri) (h : opV P d (.look kk z' ok rx ri) fr ba lo K) : Sound1 P o fr ba lo K := by
  have hm : x ∈ o.op.operands.toList := by simp [ho, Op.operands]
  have hmi : i ∈ o.op.operands.toList := by simp [ho, Op.operands]
  have hkd := keyT_out hk
  simp only [opV, evK_eq] at h
  split at h
  · rename_i key e1
    obtain ⟨hko, h⟩ := h
    have fin0 : ∀ (a : Act) (M : Nat → Prop) (w : World) (r : Option (Nat × Value)), VP M w (a.eval i) key →
        (∃ es : Array MapEntry, (match a.eval x with | .map none => es = #[] | .map (some b) => ∃ clock, w.heap[b]? = some (.map es clock) | _ => False) ∧ Instr.findNow (keyD kk) (a.eval i) es.toList 0 = some r) →
        (execOp a.eval o).run P w = .ok (.value (if ok then .tuple #[foundV z r, .bool r.isSome] else foundV z r)) w := fun a M w r g1 ⟨es, g3, g4⟩ => by
      have hck := fun em => run_checkKey (P := P) (w := w) hkd (key_is hko g1) em 9999
      have hfk := run_findKey (P := P) (w := w) hkd g4
      have hzr := zero_run (P := P) hz w
      have run : (Instr.lookup t (a.eval x) (a.eval i) ok).run P w = .ok (if ok then .tuple #[foundV z r, .bool r.isSome] else foundV z r) w := by
        generalize a.eval x = xv at g3
        split at g3
        · subst g3
          cases r with
          | none => simp [Instr.lookup, run_underlying ht, hck, hfk, hzr, Result.andThen, foundV]
          | some p => simp [Instr.lookup, run_underlying ht, hck, hfk, hzr, Result.andThen, foundV]
        · obtain ⟨clock, g3⟩ := g3
          cases r with
          | none => simp [Instr.lookup, run_underlying ht, Go.MapKept.run_getObj_map g3, hck, hfk, hzr, Result.andThen, foundV]
          | some p => simp [Instr.lookup, run_underlying ht, Go.MapKept.run_getObj_map g3, hck, hfk, hzr, Result.andThen, foundV]
        · exact g3.elim
      simp only [execOp, ho]; rw [Sem.run_bind, run]; rfl
    have fin : ∀ (a : Act) (μ : List MI) (w : World) (r : Option (Nat × Value)) (q : Option PV), VP (blocks μ) w (a.eval i) key → FoundR (blocks μ) w q r →
        (∃ es : Array MapEntry, (match a.eval x with | .map none => es = #[] | .map (some b) => ∃ clock, w.heap[b]? = some (.map es clock) | _ => False) ∧ Instr.findNow (keyD kk) (a.eval i) es.toList 0 = some r) →
        ∃ c, (execOp a.eval o).run P w = .ok (.value c) w ∧ VP (blocks μ) w c (lookV z' ok q) := fun a μ w r q g1 g2 g3 => by
      have hzv := absZ_sound hz' (blocks μ) w
      refine ⟨_, fin0 a _ w r g1 g3, ?_⟩
      have two : ∀ (y : Value) (p : PV) (b : Bool), VP (blocks μ) w y p → VP (blocks μ) w (.tuple #[y, .bool b]) (.tup [p, .bool b]) := fun y p b hy => .tup _ _ rfl fun j u c hu hc => by
        match j, hu, hc with
        | 0, hu, hc => cases hu; cases hc; exact hy
        | 1, hu, hc => cases hu; cases hc; exact .bool b
      cases q <;> cases r <;> cases ok <;> first
        | exact g2.elim
        | exact hzv
        | exact g2
        | exact two _ _ _ hzv
        | exact two _ _ _ g2
    have finA : ∀ (a : Act) (μ : List MI) (w : World) (r : Option (Nat × Value)) (q : Option AV), VP (blocks μ) w (a.eval i) key → FoundA ⟨blocks μ, ba.length, μ⟩ w q r →
        (∃ es : Array MapEntry, (match a.eval x with | .map none => es = #[] | .map (some b) => ∃ clock, w.heap[b]? = some (.map es clock) | _ => False) ∧ Instr.findNow (keyD kk) (a.eval i) es.toList 0 = some r) →
        ∃ c, (execOp a.eval o).run P w = .ok (.value c) w ∧ VA ⟨blocks μ, ba.length, μ⟩ w c (lookA z' ok q) := fun a μ w r q g1 g2 g3 => by
      have hzv := absZ_sound hz' (blocks μ) w
      refine ⟨_, fin0 a _ w r g1 g3, ?_⟩
      have two : ∀ (y : Value) (p : PV) (b : Bool), VP (blocks μ) w y p → VP (blocks μ) w (.tuple #[y, .bool b]) (.tup [p, .bool b]) := fun y p b hy => .tup _ _ rfl fun j u c hu hc => by
        match j, hu, hc with
        | 0, hu, hc => cases hu; cases hc; exact hy
        | 1, hu, hc => cases hu; cases hc; exact .bool b
      have twoA : ∀ (y : Value) (p : AV) (b : Bool), VA ⟨blocks μ, ba.length, μ⟩ w y p → VA ⟨blocks μ, ba.length, μ⟩ w (.tuple #[y, .bool b]) (.tup [p, .p (.bool b)]) := fun y p b hy => .tup _ _ rfl fun j u c hu hc => by
        match j, hu, hc with
        | 0, hu, hc => cases hu; cases hc; exact hy
        | 1, hu, hc => cases hu; cases hc; exact .p _ _ (.bool b)
      cases q with
      | none => cases r <;> cases ok <;> first
          | exact g2.elim
          | exact .p _ _ hzv
          | exact .p _ _ (two _ _ _ hzv)
      | some av => cases r with
        | none => exact g2.elim
        | some p =>
          cases ok with
          | false => exact g2
          | true =>
            cases av with
            | p v => exact .p _ _ (two _ _ _ (VA.pv g2))
            | _ => exact twoA _ _ _ g2
    split at h
    · rename_i e2
      refine .quiet _ h fun μ w a hinv hp => ?_
      have g1 := (hp.get hmi hi e1).pv
      have g2 := (hp.get hm hx e2).pv
      have g3 : a.eval x = .map none := by generalize a.eval x = xv at g2; cases g2; rfl
      obtain ⟨c, c1, c2⟩ := fin a μ w none none g1 trivial ⟨#[], by rw [g3], rfl⟩
      exact ⟨c, c1, .p _ _ c2⟩
    · rename_i m e2
      obtain ⟨ob, hob, h⟩ := atK_out _ _ _ h
      cases ob <;> first | exact (show False from h).elim | skip
      · rename_i es
        obtain ⟨q, hq, h⟩ := h
        refine .quiet _ h fun μ w a hinv hp => ?_
        have g1 := (hp.get hmi hi e1).pv
        obtain ⟨mi, k1, k2⟩ := hinv.at_l hob
        obtain ⟨b, rfl, g3⟩ := mapr_inv (hp.get hm hx e2) k1 k2
        cases k2 with
        | map _ clock xs _ k3 k4 k5 =>
          obtain ⟨r, r1, r2⟩ := find_out hko g1 es xs.toList 0 q (by simpa using k4) (fun j y e hy he => k5 j y e (by simpa using hy) he) hq
          obtain ⟨c, c1, c2⟩ := fin a μ w r q g1 r2 ⟨xs, by rw [g3]; exact ⟨clock, k3⟩, r1⟩
          exact ⟨c, c1, .p _ _ c2⟩
      · rename_i ks vs
        obtain ⟨q, hq, h⟩ := h
        refine .quiet _ h fun μ w a hinv hp => ?_
        have g1 := (hp.get hmi hi e1).pv
        obtain ⟨mi, k1, k2⟩ := hinv.at_l hob
        obtain ⟨b, clock, xs, rfl, k3, k4, k5, k6, k7⟩ := k2.amap
        have g3 := mapr_invB (hp.get hm hx e2) k1
        obtain ⟨r, r1, r2⟩ := afind_out (Γ := ⟨blocks μ, ba.length, μ⟩) hko g1 ks vs xs.toList 0 q (by simpa using k4) (fun j y e hy he => k6 j y e (by simpa using hy) he) (fun j y e hy he => k7 j y e (by simpa using hy) he) hq
        exact finA a μ w r q g1 r2 ⟨xs, by rw [g3]; exact ⟨clock, k3⟩, r1⟩
    · rename_i m e2
      obtain ⟨ob, hob, h⟩ := atK_out _ _ _ h
      cases ob <;> first | exact (show False from h).elim | skip
      · rename_i es
        obtain ⟨q, hq, h⟩ := h
        refine .quiet _ h fun μ w a hinv hp => ?_
        have g1 := (hp.get hmi hi e1).pv
        obtain ⟨mi, k1, k2⟩ := hinv.at_b hob
        obtain ⟨b, rfl, g3⟩ := mapr_inv (hp.get hm hx e2) k1 k2
        cases k2 with
        | map _ clock xs _ k3 k4 k5 =>
          obtain ⟨r, r1, r2⟩ := find_out hko g1 es xs.toList 0 q (by simpa using k4) (fun j y e hy he => k5 j y e (by simpa using hy) he) hq
          obtain ⟨c, c1, c2⟩ := fin a μ w r q g1 r2 ⟨xs, by rw [g3]; exact ⟨clock, k3⟩, r1⟩
          exact ⟨c, c1, .p _ _ c2⟩
      · rename_i ks vs
        obtain ⟨q, hq, h⟩ := h
        refine .quiet _ h fun μ w a hinv hp => ?_
        have g1 := (hp.get hmi hi e1).pv
        obtain ⟨mi, k1, k2⟩ := hinv.at_b hob
        obtain ⟨b, clock, xs, rfl, k3, k4, k5, k6, k7⟩ := k2.of_take.amap
        have g3 := mapr_invB (hp.get hm hx e2) k1
        obtain ⟨r, r1, r2⟩ := afind_out (Γ := ⟨blocks μ, ba.length, μ⟩) hko g1 ks vs xs.toList 0 q (by simpa using k4) (fun j y e hy he => k6 j y e (by simpa using hy) he) (fun j y e hy he => k7 j y e (by simpa using hy) he) hq
        exact finA a μ w r q g1 r2 ⟨xs, by rw [g3]; exact ⟨clock, k3⟩, r1⟩
    · exact h.elim
  · exact h.elim

/-- A map written to. -/
theorem put_out {kk : Option IntKind} {k v : PV} (hk : keyOk kk k = true) {M : Nat → Prop} {w : World} {kv vv : Value} (hkv : VP M w kv k) (hvv : VP M w vv v) : ∀ (es : List (PV × PV)) (l : List MapEntry) (i : Nat) (q : List (PV × PV)), l.length = es.length →
    (∀ (j : Nat) (x : MapEntry) (e : PV × PV), l[j]? = some x → es[j]? = some e → VP M w x.key e.1 ∧ VP M w x.val e.2) → mput kk k v es = some q →
    (Instr.findNow (keyD kk) kv l i = some none ∧ q = es ++ [(k, v)]) ∨
    ∃ (j : Nat) (x : MapEntry), Instr.findNow (keyD kk) kv l i = some (some (i + j, x.val)) ∧ l[j]? = some x ∧ x.key = kv ∧ q = es.set j (k, v)
  | [], l, i, q, hl, h, hq => by
    obtain rfl : l = [] := List.length_eq_zero_iff.1 hl
    cases hq
    exact .inl ⟨rfl, rfl⟩
  | (c, u) :: r, [], i, q, hl, h, hq => by cases hl
  | (c, u) :: r, x :: l, i, q, hl, h, hq => by
    obtain ⟨h1, h2⟩ := h 0 x (c, u) rfl rfl
    simp only [mput] at hq
    split at hq
    · rename_i e1 e2
      cases hq
      have hn := sameKey_now hk e1 hkv h1 e2
      refine .inr ⟨0, x, by simp [Instr.findNow, hn], rfl, ?_, rfl⟩
      obtain ⟨r', h3, h4⟩ := sameNow_of_keys (key_is hk hkv) (key_is e1 h1)
      rw [h3] at hn
      cases hn
      exact (h4.1 rfl).symm
    · rename_i e1 e2
      obtain ⟨q', hq', rfl⟩ := map_some hq
      have hn := sameKey_now hk e1 hkv h1 e2
      rcases put_out hk hkv hvv r l (i + 1) q' (by simpa using hl) (fun j y e hy he => h (j + 1) y e (by simpa using hy) (by simpa using he)) hq' with ⟨g1, rfl⟩ | ⟨j, y, g1, g2, g3, rfl⟩
      · exact .inl ⟨by simp [Instr.findNow, hn, g1], rfl⟩
      · exact .inr ⟨j + 1, y, by simp [Instr.findNow, hn, g1]; omega, by simpa using g2, g3, rfl⟩
    · cases hq

theorem aput_out {kk : Option IntKind} {k : PV} {a : AV} (hk : keyOk kk k = true) {M : Nat → Prop} {w : World} {kv : Value} (hkv : VP M w kv k) : ∀ (ks : List PV) (vs : List AV) (l : List MapEntry) (i : Nat) (q : List PV × List AV), l.length = ks.length → ks.length = vs.length →
    (∀ (j : Nat) (x : MapEntry) (e : PV), l[j]? = some x → ks[j]? = some e → VP M w x.key e) → aput kk k a ks vs = some q →
    (Instr.findNow (keyD kk) kv l i = some none ∧ q = (ks ++ [k], vs ++ [a])) ∨
    ∃ (j : Nat) (x : MapEntry), Instr.findNow (keyD kk) kv l i = some (some (i + j, x.val)) ∧ l[j]? = some x ∧ x.key = kv ∧ q = (ks.set j k, vs.set j a)
  | [], vs, l, i, q, hl, hl', h, hq => by
    obtain rfl : l = [] := List.length_eq_zero_iff.1 hl
    obtain rfl : vs = [] := List.length_eq_zero_iff.1 hl'.symm
    cases hq
    exact .inl ⟨rfl, rfl⟩
  | c :: r, v :: vs, [], i, q, hl, hl', h, hq => by cases hl
  | c :: r, [], l, i, q, hl, hl', h, hq => by cases hl'
  | c :: r, v :: vs, x :: l, i, q, hl, hl', h, hq => by
    have h1 := h 0 x c rfl rfl
    simp only [aput] at hq
    split at hq
    · rename_i e1 e2
      cases hq
      have hn := sameKey_now hk e1 hkv h1 e2
      refine .inr ⟨0, x, by simp [Instr.findNow, hn], rfl, ?_, rfl⟩
      obtain ⟨r', h3, h4⟩ := sameNow_of_keys (key_is hk hkv) (key_is e1 h1)
      rw [h3] at hn
      cases hn
      exact (h4.1 rfl).symm
    · rename_i e1 e2
      obtain ⟨q', hq', rfl⟩ := map_some hq
      have hn := sameKey_now hk e1 hkv h1 e2
      rcases aput_out hk hkv r vs l (i + 1) q' (by simpa using hl) (by simpa using hl') (fun j y e hy he => h (j + 1) y e (by simpa using hy) (by simpa using he)) hq' with ⟨g1, rfl⟩ | ⟨j, y, g1, g2, g3, rfl⟩
      · exact .inl ⟨by simp [Instr.findNow, hn, g1], rfl⟩
      · exact .inr ⟨j + 1, y, by simp [Instr.findNow, hn, g1]; omega, by simpa using g2, g3, rfl⟩
    · cases hq

theorem adel_out {kk : Option IntKind} {k : PV} (hk : keyOk kk k = true) {M : Nat → Prop} {w : World} {kv : Value} (hkv : VP M w kv k) : ∀ (ks : List PV) (vs : List AV) (l : List MapEntry) (i : Nat) (q : List PV × List AV), l.length = ks.length → ks.length = vs.length →
    (∀ (j : Nat) (x : MapEntry) (e : PV), l[j]? = some x → ks[j]? = some e → VP M w x.key e) → adel kk k ks vs = some q →
    (Instr.findNow (keyD kk) kv l i = some none ∧ q = (ks, vs)) ∨
    ∃ (j : Nat) (x : MapEntry), Instr.findNow (keyD kk) kv l i = some (some (i + j, x.val)) ∧ l[j]? = some x ∧ q = (ks.eraseIdx j, vs.eraseIdx j)
  | [], vs, l, i, q, hl, hl', h, hq => by
    obtain rfl : l = [] := List.length_eq_zero_iff.1 hl
    cases hq
    exact .inl ⟨rfl, rfl⟩
  | c :: r, v :: vs, [], i, q, hl, hl', h, hq => by cases hl
  | c :: r, [], l, i, q, hl, hl', h, hq => by cases hl'
  | c :: r, v :: vs, x :: l, i, q, hl, hl', h, hq => by
    have h1 := h 0 x c rfl rfl
    simp only [adel] at hq
    split at hq
    · rename_i e1 e2
      cases hq
      have hn := sameKey_now hk e1 hkv h1 e2
      exact .inr ⟨0, x, by simp [Instr.findNow, hn], rfl, rfl⟩
    · rename_i e1 e2
      obtain ⟨q', hq', rfl⟩ := map_some hq
      have hn := sameKey_now hk e1 hkv h1 e2
      rcases adel_out hk hkv r vs l (i + 1) q' (by simpa using hl) (by simpa using hl') (fun j y e hy he => h (j + 1) y e (by simpa using hy) (by simpa using he)) hq' with ⟨g1, rfl⟩ | ⟨j, y, g1, g2, rfl⟩
      · exact .inl ⟨by simp [Instr.findNow, hn, g1], rfl⟩
      · exact .inr ⟨j + 1, y, by simp [Instr.findNow, hn, g1]; omega, by simpa using g2, by simp⟩
    · cases hq

theorem ment_out {kk : Option IntKind} {k zero : PV} (hk : keyOk kk k = true) {M : Nat → Prop} {w : World} {kv : Value} (hkv : VP M w kv k) : ∀ (es : List (PV × PV)) (l : List MapEntry) (i : Nat) (q : PV × Nat × List (PV × PV)), l.length = es.length →
    (∀ (j : Nat) (x : MapEntry) (e : PV × PV), l[j]? = some x → es[j]? = some e → VP M w x.key e.1 ∧ VP M w x.val e.2) → mentF kk k zero es = some q →
    (Instr.findNow (keyD kk) kv l i = some none ∧ q = (zero, es.length, es ++ [(k, zero)])) ∨
    ∃ (j : Nat) (x : MapEntry) (u : PV), Instr.findNow (keyD kk) kv l i = some (some (i + j, x.val)) ∧ l[j]? = some x ∧ x.key = kv ∧ VP M w x.val u ∧ q = (u, j, es.set j (k, u))
  | [], l, i, q, hl, h, hq => by
    obtain rfl : l = [] := List.length_eq_zero_iff.1 hl
    cases hq
    exact .inl ⟨rfl, rfl⟩
  | (c, u) :: r, [], i, q, hl, h, hq => by cases hl
  | (c, u) :: r, x :: l, i, q, hl, h, hq => by
    obtain ⟨h1, h2⟩ := h 0 x (c, u) rfl rfl
    simp only [mentF] at hq
    split at hq
    · rename_i e1 e2
      cases hq
      have hn := sameKey_now hk e1 hkv h1 e2
      refine .inr ⟨0, x, u, by simp [Instr.findNow, hn], rfl, ?_, h2, rfl⟩
      obtain ⟨r', h3, h4⟩ := sameNow_of_keys (key_is hk hkv) (key_is e1 h1)
      rw [h3] at hn
      cases hn
      exact (h4.1 rfl).symm
    · rename_i e1 e2
      obtain ⟨q', hq', rfl⟩ := map_some hq
      have hn := sameKey_now hk e1 hkv h1 e2
      rcases ment_out hk hkv r l (i + 1) q' (by simpa using hl) (fun j y e hy he => h (j + 1) y e (by simpa using hy) (by simpa using he)) hq' with ⟨g1, rfl⟩ | ⟨j, y, u', g1, g2, g3, g4, rfl⟩
      · exact .inl ⟨by simp [Instr.findNow, hn, g1], rfl⟩
      · exact .inr ⟨j + 1, y, u', by simp [Instr.findNow, hn, g1]; omega, by simpa using g2, g3, g4, rfl⟩
    · cases hq

/-- A map's entries change. -/
theorem map_step_l {μ : List MI} {w : World} (hinv : Inv μ w ba lo) {m b clock clock' : Nat} {xs xs' : Array MapEntry} {ob' : Ob} (hmi : Ctx.at ⟨blocks μ, ba.length, μ⟩ (.l m) = some (.map b)) (k3 : w.heap[b]? = some (.map xs clock)) (hml : m < lo.length)
    (hok : ∀ w' : World, w'.heap[b]? = some (.map xs' clock') → Le μ w μ w' → ObOk ⟨blocks μ, ba.length, μ⟩ w' (.map b) ob') :
    Inv μ { w with heap := w.heap.setIfInBounds b (.map xs' clock') } ba (lo.set m ob') ∧ Le μ w μ { w with heap := w.heap.setIfInBounds b (.map xs' clock') } := by
  have hmi' : μ[ba.length + m]? = some (.map b) := hmi
  have e : μ.set (ba.length + m) (.map b) = μ := by
    apply List.ext_getElem?
    intro j
    rw [List.getElem?_set]
    split
    · rename_i h; subst h; rw [hmi']; simp [get_lt hmi']
    · rfl
  obtain ⟨hs1, hs2⟩ := heap_set (o' := .map xs' clock') k3
  have q := hinv.change (w' := { w with heap := w.heap.setIfInBounds b (.map xs' clock') }) (ba' := ba) (lo' := lo.set m ob') hmi' (.refl _)
    (fun b' hb' => .inl hb') rfl rfl rfl (by simp) (fun b' hb' hne => hs2 b' fun e => hne (by rw [e]; rfl)) rfl (by simp) (fun j hj => rfl)
    (fun k hk => by rw [List.getElem?_set_ne (by omega)]) (fun hle o' hlt => by omega) (fun hle k o' hk ho' => by
      have hk' : k = m := by omega
      subst hk'
      rw [List.getElem?_set, if_pos rfl, if_pos hml] at ho'
      cases ho'
      rw [e] at hle ⊢
      exact hok _ hs1 hle)
  rw [e] at q
  exact q

theorem map_step_b {μ : List MI} {w : World} (hinv : Inv μ w ba lo) {m b clock clock' : Nat} {xs xs' : Array MapEntry} {ob' : Ob} (hmi : Ctx.at ⟨blocks μ, ba.length, μ⟩ (.b m) = some (.map b)) (k3 : w.heap[b]? = some (.map xs clock)) (hml : m < ba.length)
    (hok : ∀ w' : World, w'.heap[b]? = some (.map xs' clock') → Le μ w μ w' → ObOk ⟨blocks μ, ba.length, μ.take ba.length⟩ w' (.map b) ob') :
    Inv μ { w with heap := w.heap.setIfInBounds b (.map xs' clock') } (ba.set m ob') lo ∧ Le μ w μ { w with heap := w.heap.setIfInBounds b (.map xs' clock') } := by
  have hmi' : μ[m]? = some (.map b) := by
    simp only [Ctx.at] at hmi
    rw [if_pos hml] at hmi
    exact hmi
  have e : μ.set m (.map b) = μ := by
    apply List.ext_getElem?
    intro j
    rw [List.getElem?_set]
    split
    · rename_i h; subst h; rw [hmi']; simp [get_lt hmi']
    · rfl
  obtain ⟨hs1, hs2⟩ := heap_set (o' := .map xs' clock') k3
  have q := hinv.change (w' := { w with heap := w.heap.setIfInBounds b (.map xs' clock') }) (ba' := ba.set m ob') (lo' := lo) hmi' (.refl _)
    (fun b' hb' => .inl hb') rfl rfl rfl (by simp) (fun b' hb' hne => hs2 b' fun e => hne (by rw [e]; rfl)) (by simp) rfl
    (fun j hj => by rw [List.getElem?_set_ne (fun e => hj e.symm)]) (fun k hk => rfl) (fun hle o' hlt ho' => by
      rw [List.getElem?_set, if_pos rfl, if_pos hml] at ho'
      cases ho'
      rw [e] at hle ⊢
      exact hok _ hs1 hle) (fun hle k o' hk => by omega)
  rw [e] at q
  exact q

theorem Above.take {μ μ' : List MI} (h : Above μ μ') (n : Nat) : Above (μ.take n) (μ'.take n) := fun i m hm => by
  rw [List.getElem?_take] at hm
  split at hm
  · rename_i hlt
    obtain ⟨m3, h4, h5⟩ := h i m hm
    exact ⟨m3, by rw [List.getElem?_take, if_pos hlt]; exact h4, h5⟩
  · cases hm

theorem s_mset {t kt et : TypeId} {x i y : Operand} {rx ri ry : Rv} {kk : Option IntKind} (ho : o.op = .mapUpdate t x i y) (ht : P.underlying t = some (.map kt et)) (hk : keyT P kt = some kk)
    (hx : rv x = some rx) (hi : rv i = some ri) (hy : rv y = some ry) (h : opV P d (.mset kk rx ri ry) fr ba lo K) : Sound1 P o fr ba lo K := by
  have hm : x ∈ o.op.operands.toList := by simp [ho, Op.operands]
  have hmi : i ∈ o.op.operands.toList := by simp [ho, Op.operands]
  have hmy : y ∈ o.op.operands.toList := by simp [ho, Op.operands]
  have hkd := keyT_out hk
  simp only [opV, evK_eq] at h
  split at h
  case h_2 => exact h.elim
  rename_i key e1
  obtain ⟨hko, h⟩ := h
  have fnone : ∀ (a : Act) (M : Nat → Prop) (w : World) (b clock : Nat) (xs : Array MapEntry), VP M w (a.eval i) key → a.eval x = .map (some b) → w.heap[b]? = some (.map xs clock) → Instr.findNow (keyD kk) (a.eval i) xs.toList 0 = some none →
      (execOp a.eval o).run P w = .ok .skip { w with heap := w.heap.setIfInBounds b (.map (xs.push { key := a.eval i, val := a.eval y, born := clock }) (clock + 1)) } := fun a M w b clock xs g1 g3 g4 f1 => by
    have hck := fun em => run_checkKey (P := P) (w := w) hkd (key_is hko g1) em 9999
    have hfk := run_findKey (P := P) (w := w) hkd f1
    simp [execOp, ho, g3, Instr.mapUpdate, run_underlying ht, Go.MapKept.run_getObj_map g4, hck, hfk, run_setObj_map _ g4, Result.andThen]
  have fsome : ∀ (a : Act) (M : Nat → Prop) (w : World) (b clock : Nat) (xs : Array MapEntry) (j : Nat) (e : MapEntry), VP M w (a.eval i) key → a.eval x = .map (some b) → w.heap[b]? = some (.map xs clock) → Instr.findNow (keyD kk) (a.eval i) xs.toList 0 = some (some (0 + j, e.val)) → xs[j]? = some e → e.key = a.eval i →
      (execOp a.eval o).run P w = .ok .skip { w with heap := w.heap.setIfInBounds b (.map (xs.modify j fun e => { e with key := a.eval i, val := a.eval y }) clock) } := fun a M w b clock xs j e g1 g3 g4 f1 hj f3 => by
    have hck := fun em => run_checkKey (P := P) (w := w) hkd (key_is hko g1) em 9999
    have hfk := run_findKey (P := P) (w := w) hkd f1
    simp only [Nat.zero_add] at hfk
    simp [execOp, ho, g3, Instr.mapUpdate, run_underlying ht, Go.MapKept.run_getObj_map g4, hck, hfk, hj, f3, run_keyThatStays (key_is hko g1), run_setObj_map _ g4, Result.andThen]
  have fin : ∀ (val : PV) (a : Act) (μ : List MI) (w : World) (b clock : Nat) (xs : Array MapEntry) (es q : List (PV × PV)), VP (blocks μ) w (a.eval i) key → VP (blocks μ) w (a.eval y) val → a.eval x = .map (some b) → w.heap[b]? = some (.map xs clock) → xs.size = es.length →
      (∀ (j : Nat) (x : MapEntry) (e : PV × PV), xs[j]? = some x → es[j]? = some e → VP (blocks μ) w x.key e.1 ∧ VP (blocks μ) w x.val e.2) → clock = xs.size → (∀ (j : Nat) (x : MapEntry), xs[j]? = some x → x.born = j) → mput kk key val es = some q →
      ∃ (xs' : Array MapEntry) (clock' : Nat), (execOp a.eval o).run P w = .ok .skip { w with heap := w.heap.setIfInBounds b (.map xs' clock') } ∧ xs'.size = q.length ∧ (∀ (j : Nat) (x : MapEntry) (e : PV × PV), xs'[j]? = some x → q[j]? = some e → VP (blocks μ) w x.key e.1 ∧ VP (blocks μ) w x.val e.2) ∧
        clock' = xs'.size ∧ ∀ (j : Nat) (x : MapEntry), xs'[j]? = some x → x.born = j := fun val a μ w b clock xs es q g1 g2 g3 g4 g5 g6 gc gb hq => by
    rcases put_out hko g1 g2 es xs.toList 0 q (by simpa using g5) (fun j y e hy he => g6 j y e (by simpa using hy) he) hq with ⟨f1, rfl⟩ | ⟨j, e, f1, f2, f3, rfl⟩
    · refine ⟨_, _, fnone a _ w b clock xs g1 g3 g4 f1, by simp [g5], fun j u e hu he => ?_, by simp [gc], fun j u hu => ?_⟩
      · rw [Array.getElem?_push] at hu
        by_cases hj : j = xs.size
        · rw [if_pos hj] at hu
          cases hu
          rw [List.getElem?_append_right (by omega), hj, g5, Nat.sub_self] at he
          cases he
          exact ⟨g1, g2⟩
        · rw [if_neg hj] at hu
          rw [List.getElem?_append_left (by have := (Array.getElem?_eq_some_iff.1 hu).1; omega)] at he
          exact g6 j u e hu he
      · rw [Array.getElem?_push] at hu
        split at hu
        · rename_i hj; cases hu; rw [gc, hj]
        · exact gb j u hu
    · have hj : xs[j]? = some e := by simpa using f2
      refine ⟨_, _, fsome a _ w b clock xs j e g1 g3 g4 f1 hj f3, by simp [g5], fun k u e' hu he => ?_, by simp [gc], fun k u hu => ?_⟩
      · rw [Array.getElem?_modify] at hu
        rw [List.getElem?_set] at he
        by_cases hkj : j = k
        · subst hkj
          rw [if_pos rfl] at hu he
          split at he
          · cases he
            rw [hj] at hu
            cases hu
            exact ⟨g1, g2⟩
          · cases he
        · rw [if_neg hkj] at hu he
          exact g6 k u e' hu he
      · rw [Array.getElem?_modify] at hu
        split at hu
        · rename_i hkj
          subst hkj
          rw [hj] at hu
          cases hu
          exact gb j e hj
        · exact gb k u hu
  have finA : ∀ (Γ : Ctx) (c : AV) (a : Act) (w : World) (b clock : Nat) (xs : Array MapEntry) (ks : List PV) (vs : List AV) (q : List PV × List AV), VP Γ.M w (a.eval i) key → VA Γ w (a.eval y) c → a.eval x = .map (some b) → w.heap[b]? = some (.map xs clock) → xs.size = ks.length → ks.length = vs.length →
      (∀ (j : Nat) (x : MapEntry) (e : PV), xs[j]? = some x → ks[j]? = some e → VP Γ.M w x.key e) → (∀ (j : Nat) (x : MapEntry) (e : AV), xs[j]? = some x → vs[j]? = some e → VA Γ w x.val e) → aput kk key c ks vs = some q →
      ∃ (xs' : Array MapEntry) (clock' : Nat), (execOp a.eval o).run P w = .ok .skip { w with heap := w.heap.setIfInBounds b (.map xs' clock') } ∧ xs'.size = q.1.length ∧ q.1.length = q.2.length ∧ (∀ (j : Nat) (x : MapEntry) (e : PV), xs'[j]? = some x → q.1[j]? = some e → VP Γ.M w x.key e) ∧
        ∀ (j : Nat) (x : MapEntry) (e : AV), xs'[j]? = some x → q.2[j]? = some e → VA Γ w x.val e := fun Γ c a w b clock xs ks vs q g1 g2 g3 g4 g5 g5' g6 g7 hq => by
    rcases aput_out hko g1 ks vs xs.toList 0 q (by simpa using g5) g5' (fun j y e hy he => g6 j y e (by simpa using hy) he) hq with ⟨f1, rfl⟩ | ⟨j, e, f1, f2, f3, rfl⟩
    · refine ⟨_, _, fnone a _ w b clock xs g1 g3 g4 f1, by simp [g5], by simp [g5'], fun j u e hu he => ?_, fun j u e hu he => ?_⟩
      · rw [Array.getElem?_push] at hu
        by_cases hj : j = xs.size
        · rw [if_pos hj] at hu
          cases hu
          rw [List.getElem?_append_right (by omega), hj, g5, Nat.sub_self] at he
          cases he
          exact g1
        · rw [if_neg hj] at hu
          rw [List.getElem?_append_left (by have := (Array.getElem?_eq_some_iff.1 hu).1; omega)] at he
          exact g6 j u e hu he
      · rw [Array.getElem?_push] at hu
        by_cases hj : j = xs.size
        · rw [if_pos hj] at hu
          cases hu
          rw [List.getElem?_append_right (by omega), hj, g5, g5', Nat.sub_self] at he
          cases he
          exact g2
        · rw [if_neg hj] at hu
          rw [List.getElem?_append_left (by have := (Array.getElem?_eq_some_iff.1 hu).1; omega)] at he
          exact g7 j u e hu he
    · have hj : xs[j]? = some e := by simpa using f2
      refine ⟨_, _, fsome a _ w b clock xs j e g1 g3 g4 f1 hj f3, by simp [g5], by simp [g5'], fun k u e' hu he => ?_, fun k u e' hu he => ?_⟩
      · rw [Array.getElem?_modify] at hu
        rw [List.getElem?_set] at he
        by_cases hkj : j = k
        · subst hkj
          rw [if_pos rfl] at hu he
          split at he
          · cases he
            rw [hj] at hu
            cases hu
            exact g1
          · cases he
        · rw [if_neg hkj] at hu he
          exact g6 k u e' hu he
      · rw [Array.getElem?_modify] at hu
        rw [List.getElem?_set] at he
        by_cases hkj : j = k
        · subst hkj
          rw [if_pos rfl] at hu he
          split at he
          · cases he
            rw [hj] at hu
            cases hu
            exact g2
          · cases he
        · rw [if_neg hkj] at hu he
          exact g7 k u e' hu he
  split at h
  · rename_i m e3
    obtain ⟨ob, hob, h⟩ := atK_out _ _ _ h
    cases ob <;> first | exact (show False from h).elim | skip
    · rename_i es
      dsimp only at h
      split at h
      case h_2 => exact h.elim
      rename_i val e2
      obtain ⟨q, hq, h⟩ := h
      obtain ⟨hml, h⟩ := setAtK_out _ _ _ _ h
      refine ⟨_, _, _, h, fun μ w a hinv hp => ?_⟩
      have g1 := (hp.get hmi hi e1).pv
      have g2 := (hp.get hmy hy e2).pv
      obtain ⟨mi, k1, k2⟩ := hinv.at_l hob
      obtain ⟨b, rfl, g3⟩ := mapr_inv (hp.get hm hx e3) k1 k2
      cases k2 with
      | map _ clock xs _ k3 k4 k5 k6 k7 =>
        obtain ⟨xs', clock', c1, c2, c3, c4, c5⟩ := fin val a μ w b clock xs es q g1 g2 g3 k3 k4 k5 k6 k7 hq
        obtain ⟨r1, r2⟩ := map_step_l hinv k1 k3 hml (ob' := .map q) fun w' hw' hle => .map b clock' xs' q hw' c2 (fun j x e hx he => ⟨(c3 j x e hx he).1.mono hle.stays, (c3 j x e hx he).2.mono hle.stays⟩) c4 c5
        exact ⟨undef, _, _, .inr ⟨c1, rfl⟩, .p _ _ (.undef _), r1, r2, rfl⟩
    · rename_i ks vs
      obtain ⟨q, hq, h⟩ := h
      obtain ⟨hml, h⟩ := setAtK_out _ _ _ _ h
      refine ⟨_, _, _, h, fun μ w a hinv hp => ?_⟩
      have g1 := (hp.get hmi hi e1).pv
      have g2 := hp.get hmy hy rfl
      obtain ⟨mi, k1, k2⟩ := hinv.at_l hob
      obtain ⟨b, clock, xs, rfl, k3, k4, k5, k6, k7⟩ := k2.amap
      have g3 := mapr_invB (hp.get hm hx e3) k1
      obtain ⟨xs', clock', c1, c2, c3, c4, c5⟩ := finA ⟨blocks μ, ba.length, μ⟩ _ a w b clock xs ks vs q g1 g2 g3 k3 k4 k5 k6 k7 hq
      obtain ⟨r1, r2⟩ := map_step_l hinv k1 k3 hml (ob' := .mapA q.1 q.2) fun w' hw' hle => .mapA b clock' xs' q.1 q.2 hw' c2 c3 (fun j x e hx he => (c4 j x e hx he).mono hle.stays) fun j x e hx he => (c5 j x e hx he).mono hle.stays hle.above
      exact ⟨undef, _, _, .inr ⟨c1, rfl⟩, .p _ _ (.undef _), r1, r2, rfl⟩
  · rename_i m e3
    obtain ⟨ob, hob, h⟩ := atK_out _ _ _ h
    cases ob <;> first | exact (show False from h).elim | skip
    · rename_i es
      dsimp only at h
      split at h
      case h_2 => exact h.elim
      rename_i val e2
      obtain ⟨q, hq, h⟩ := h
      obtain ⟨hml, h⟩ := setAtK_out _ _ _ _ h
      refine ⟨_, _, _, h, fun μ w a hinv hp => ?_⟩
      have g1 := (hp.get hmi hi e1).pv
      have g2 := (hp.get hmy hy e2).pv
      obtain ⟨mi, k1, k2⟩ := hinv.at_b hob
      obtain ⟨b, rfl, g3⟩ := mapr_inv (hp.get hm hx e3) k1 k2
      cases k2 with
      | map _ clock xs _ k3 k4 k5 k6 k7 =>
        obtain ⟨xs', clock', c1, c2, c3, c4, c5⟩ := fin val a μ w b clock xs es q g1 g2 g3 k3 k4 k5 k6 k7 hq
        obtain ⟨r1, r2⟩ := map_step_b hinv k1 k3 hml (ob' := .map q) fun w' hw' hle => .map b clock' xs' q hw' c2 (fun j x e hx he => ⟨(c3 j x e hx he).1.mono hle.stays, (c3 j x e hx he).2.mono hle.stays⟩) c4 c5
        exact ⟨undef, _, _, .inr ⟨c1, rfl⟩, .p _ _ (.undef _), r1, r2, by simp⟩
    · rename_i ks vs
      obtain ⟨hnl, q, hq, h⟩ := h
      obtain ⟨hml, h⟩ := setAtK_out _ _ _ _ h
      refine ⟨_, _, _, h, fun μ w a hinv hp => ?_⟩
      have g1 := (hp.get hmi hi e1).pv
      have g2 := noL_take (hp.get hmy hy rfl) hnl
      obtain ⟨mi, k1, k2⟩ := hinv.at_b hob
      obtain ⟨b, clock, xs, rfl, k3, k4, k5, k6, k7⟩ := k2.amap
      have g3 := mapr_invB (hp.get hm hx e3) k1
      obtain ⟨xs', clock', c1, c2, c3, c4, c5⟩ := finA ⟨blocks μ, ba.length, μ.take ba.length⟩ _ a w b clock xs ks vs q g1 g2 g3 k3 k4 k5 k6 k7 hq
      obtain ⟨r1, r2⟩ := map_step_b hinv k1 k3 hml (ob' := .mapA q.1 q.2) fun w' hw' hle => .mapA b clock' xs' q.1 q.2 hw' c2 c3 (fun j x e hx he => (c4 j x e hx he).mono hle.stays) fun j x e hx he => (c5 j x e hx he).mono hle.stays (hle.above.take _)
      exact ⟨undef, _, _, .inr ⟨c1, rfl⟩, .p _ _ (.undef _), r1, r2, by simp⟩
  · exact h.elim

theorem erase_get {α : Type} {l : List α} {j k : Nat} : (l.eraseIdx j)[k]? = if k < j then l[k]? else l[k + 1]? := List.getElem?_eraseIdx

theorem s_mdel {t t2 kt et : TypeId} {x i : Operand} {rx ri : Rv} {kk : Option IntKind} (ho : o.op = .call { callee := .builtin .delete, args := #[x, i], argTypes := #[t, t2] }) (ht : P.underlying t = some (.map kt et)) (hk : keyT P kt = some kk)
    (hx : rv x = some rx) (hi : rv i = some ri) (h : opV P d (.mdel kk rx ri) fr ba lo K) : Sound1 P o fr ba lo K := by
  have hm : x ∈ o.op.operands.toList := by simp [ho, Op.operands, Call.operands]
  have hmi : i ∈ o.op.operands.toList := by simp [ho, Op.operands, Call.operands]
  have hkd := keyT_out hk
  simp only [opV, evK_eq] at h
  split at h
  case h_2 => exact h.elim
  rename_i key e1
  obtain ⟨hko, h⟩ := h
  have run : ∀ (a : Act) (M : Nat → Prop) (w : World) (b clock : Nat) (xs : Array MapEntry) (r : Option (Nat × Value)), VP M w (a.eval i) key → a.eval x = .map (some b) → w.heap[b]? = some (.map xs clock) → Instr.findNow (keyD kk) (a.eval i) xs.toList 0 = some r →
      (execOp a.eval o).run P w = .ok (.value (.tuple #[])) { w with heap := w.heap.setIfInBounds b (.map (match r with | some (j, _) => xs.eraseIdxIfInBounds j | none => xs) clock) } := fun a M w b clock xs r g1 g3 g4 f1 => by
    have hck := fun em => run_checkKey (P := P) (w := w) hkd (key_is hko g1) em 9999
    have hfk := run_findKey (P := P) (w := w) hkd f1
    cases r <;> simp [execOp, ho, resolve, invoke, builtin, g3, Builtin.delete_, run_underlying ht, Go.MapKept.run_getObj_map g4, hck, hfk, run_setObj_map _ g4, Result.andThen]
  have fin : ∀ (Γ : Ctx) (a : Act) (w : World) (b clock : Nat) (xs : Array MapEntry) (ks : List PV) (vs : List AV) (q : List PV × List AV), VP Γ.M w (a.eval i) key → a.eval x = .map (some b) → w.heap[b]? = some (.map xs clock) → xs.size = ks.length → ks.length = vs.length →
      (∀ (j : Nat) (x : MapEntry) (e : PV), xs[j]? = some x → ks[j]? = some e → VP Γ.M w x.key e) → (∀ (j : Nat) (x : MapEntry) (e : AV), xs[j]? = some x → vs[j]? = some e → VA Γ w x.val e) → adel kk key ks vs = some q →
      ∃ (xs' : Array MapEntry), (execOp a.eval o).run P w = .ok (.value (.tuple #[])) { w with heap := w.heap.setIfInBounds b (.map xs' clock) } ∧ xs'.size = q.1.length ∧ q.1.length = q.2.length ∧ (∀ (j : Nat) (x : MapEntry) (e : PV), xs'[j]? = some x → q.1[j]? = some e → VP Γ.M w x.key e) ∧
        ∀ (j : Nat) (x : MapEntry) (e : AV), xs'[j]? = some x → q.2[j]? = some e → VA Γ w x.val e := fun Γ a w b clock xs ks vs q g1 g3 g4 g5 g5' g6 g7 hq => by
    rcases adel_out hko g1 ks vs xs.toList 0 q (by simpa using g5) g5' (fun j y e hy he => g6 j y e (by simpa using hy) he) hq with ⟨f1, rfl⟩ | ⟨j, e, f1, f2, rfl⟩
    · exact ⟨_, run a _ w b clock xs none g1 g3 g4 f1, g5, g5', g6, g7⟩
    · have hj : xs[j]? = some e := by simpa using f2
      have hjl := aget_lt hj
      rw [Nat.zero_add] at f1
      have eg : ∀ k, (xs.eraseIdxIfInBounds j)[k]? = if k < j then xs[k]? else xs[k + 1]? := fun k => by
        unfold Array.eraseIdxIfInBounds
        rw [dif_pos hjl, Array.getElem?_eraseIdx]
      refine ⟨xs.eraseIdxIfInBounds j, run a _ w b clock xs _ g1 g3 g4 f1, ?_, ?_, fun k u c hu hc => ?_, fun k u c hu hc => ?_⟩
      · unfold Array.eraseIdxIfInBounds
        rw [dif_pos hjl, Array.size_eraseIdx, List.length_eraseIdx, if_pos (by omega), g5]
      · rw [List.length_eraseIdx, List.length_eraseIdx, g5']
      · rw [eg] at hu
        simp only [erase_get] at hc
        split at hu <;> rename_i hkj
        · rw [if_pos hkj] at hc; exact g6 _ u c hu hc
        · rw [if_neg hkj] at hc; exact g6 _ u c hu hc
      · rw [eg] at hu
        simp only [erase_get] at hc
        split at hu <;> rename_i hkj
        · rw [if_pos hkj] at hc; exact g7 _ u c hu hc
        · rw [if_neg hkj] at hc; exact g7 _ u c hu hc
  split at h
  · rename_i m e3
    obtain ⟨ob, hob, h⟩ := atK_out _ _ _ h
    cases ob <;> first | exact (show False from h).elim | skip
    rename_i ks vs
    obtain ⟨q, hq, h⟩ := h
    obtain ⟨hml, h⟩ := setAtK_out _ _ _ _ h
    refine ⟨_, _, _, h, fun μ w a hinv hp => ?_⟩
    have g1 := (hp.get hmi hi e1).pv
    obtain ⟨mi, k1, k2⟩ := hinv.at_l hob
    obtain ⟨b, clock, xs, rfl, k3, k4, k5, k6, k7⟩ := k2.amap
    have g3 := mapr_invB (hp.get hm hx e3) k1
    obtain ⟨xs', c1, c2, c3, c4, c5⟩ := fin ⟨blocks μ, ba.length, μ⟩ a w b clock xs ks vs q g1 g3 k3 k4 k5 k6 k7 hq
    obtain ⟨r1, r2⟩ := map_step_l hinv k1 k3 hml (ob' := .mapA q.1 q.2) fun w' hw' hle => .mapA b clock xs' q.1 q.2 hw' c2 c3 (fun j x e hx he => (c4 j x e hx he).mono hle.stays) fun j x e hx he => (c5 j x e hx he).mono hle.stays hle.above
    exact ⟨_, _, _, .inl c1, .p _ _ (.undef _), r1, r2, rfl⟩
  · rename_i m e3
    obtain ⟨ob, hob, h⟩ := atK_out _ _ _ h
    cases ob <;> first | exact (show False from h).elim | skip
    rename_i ks vs
    obtain ⟨q, hq, h⟩ := h
    obtain ⟨hml, h⟩ := setAtK_out _ _ _ _ h
    refine ⟨_, _, _, h, fun μ w a hinv hp => ?_⟩
    have g1 := (hp.get hmi hi e1).pv
    obtain ⟨mi, k1, k2⟩ := hinv.at_b hob
    obtain ⟨b, clock, xs, rfl, k3, k4, k5, k6, k7⟩ := k2.amap
    have g3 := mapr_invB (hp.get hm hx e3) k1
    obtain ⟨xs', c1, c2, c3, c4, c5⟩ := fin ⟨blocks μ, ba.length, μ.take ba.length⟩ a w b clock xs ks vs q g1 g3 k3 k4 k5 k6 k7 hq
    obtain ⟨r1, r2⟩ := map_step_b hinv k1 k3 hml (ob' := .mapA q.1 q.2) fun w' hw' hle => .mapA b clock xs' q.1 q.2 hw' c2 c3 (fun j x e hx he => (c4 j x e hx he).mono hle.stays) fun j x e hx he => (c5 j x e hx he).mono hle.stays (hle.above.take _)
    exact ⟨_, _, _, .inl c1, .p _ _ (.undef _), r1, r2, by simp⟩
  · exact h.elim

theorem s_ment {t kt et : TypeId} {x i : Operand} {rx ri : Rv} {kk : Option IntKind} {z : Value} {z' : PV} (ho : o.op = .mapEntry t x i) (ht : P.underlying t = some (.map kt et)) (hk : keyT P kt = some kk) (hz : (P.info? et).bind (·.zero) = some z) (hz' : absZ z = some z')
    (hx : rv x = some rx) (hi : rv i = some ri) (h : opV P d (.ment kk z' rx ri) fr ba lo K) : Sound1 P o fr ba lo K := by
  have hm : x ∈ o.op.operands.toList := by simp [ho, Op.operands]
  have hmi : i ∈ o.op.operands.toList := by simp [ho, Op.operands]
  have hkd := keyT_out hk
  simp only [opV, evK_eq] at h
  split at h
  case h_2 => exact h.elim
  rename_i key e1
  obtain ⟨hko, h⟩ := h
  have fin : ∀ (a : Act) (M : Nat → Prop) (w : World) (b clock : Nat) (xs : Array MapEntry) (es : List (PV × PV)) (q : PV × Nat × List (PV × PV)), VP M w (a.eval i) key → a.eval x = .map (some b) → w.heap[b]? = some (.map xs clock) → xs.size = es.length →
      (∀ (j : Nat) (x : MapEntry) (e : PV × PV), xs[j]? = some x → es[j]? = some e → VP M w x.key e.1 ∧ VP M w x.val e.2) → clock = xs.size → (∀ (j : Nat) (x : MapEntry), xs[j]? = some x → x.born = j) → mentF kk key z' es = some q →
      ∃ (c : Value) (xs' : Array MapEntry) (clock' : Nat), (execOp a.eval o).run P w = .ok (.value c) { w with heap := w.heap.setIfInBounds b (.map xs' clock') } ∧ VP M w c (.tup [q.1, .int .i64 q.2.1]) ∧ xs'.size = q.2.2.length ∧ (∀ (j : Nat) (x : MapEntry) (e : PV × PV), xs'[j]? = some x → q.2.2[j]? = some e → VP M w x.key e.1 ∧ VP M w x.val e.2) ∧
        clock' = xs'.size ∧ ∀ (j : Nat) (x : MapEntry), xs'[j]? = some x → x.born = j := fun a M w b clock xs es q g1 g3 g4 g5 g6 gc gb hq => by
    have hck := fun em => run_checkKey (P := P) (w := w) hkd (key_is hko g1) em 9999
    have two : ∀ (y : Value) (p : PV) (n : Nat), VP M w y p → VP M w (.tuple #[y, .int .i64 n]) (.tup [p, .int .i64 n]) := fun y p n hy => .tup _ _ rfl fun j u c hu hc => by
      match j, hu, hc with
      | 0, hu, hc => cases hu; cases hc; exact hy
      | 1, hu, hc => cases hu; cases hc; exact .int _ _
    rcases ment_out hko g1 es xs.toList 0 q (by simpa using g5) (fun j y e hy he => g6 j y e (by simpa using hy) he) hq with ⟨f1, rfl⟩ | ⟨j, e, u, f1, f2, f3, f4, rfl⟩
    · have hfk := run_findKey (P := P) (w := w) hkd f1
      have hzr := zero_run (P := P) hz w
      have hzv := absZ_sound hz' M w
      refine ⟨.tuple #[z, .int .i64 clock], xs.push { key := a.eval i, val := z, born := clock }, clock + 1, ?_, ?_, by simp [g5], fun j u e hu he => ?_, by simp [gc], fun j u hu => ?_⟩
      · simp [execOp, ho, g3, Instr.mapEntry, run_underlying ht, Go.MapKept.run_getObj_map g4, hck, hfk, hzr, run_setObj_map _ g4, Result.andThen, goInt]
      · have := two z z' clock hzv
        rw [gc, g5] at this
        rw [gc, g5]
        exact this
      · rw [Array.getElem?_push] at hu
        by_cases hj : j = xs.size
        · rw [if_pos hj] at hu
          cases hu
          rw [List.getElem?_append_right (by omega), hj, g5, Nat.sub_self] at he
          cases he
          exact ⟨g1, hzv⟩
        · rw [if_neg hj] at hu
          rw [List.getElem?_append_left (by have := (Array.getElem?_eq_some_iff.1 hu).1; omega)] at he
          exact g6 j u e hu he
      · rw [Array.getElem?_push] at hu
        split at hu
        · rename_i hj; cases hu; rw [gc, hj]
        · exact gb j u hu
    · have hfk := run_findKey (P := P) (w := w) hkd f1
      have hj : xs[j]? = some e := by simpa using f2
      simp only [Nat.zero_add] at hfk
      have hborn := gb j e hj
      refine ⟨.tuple #[e.val, .int .i64 j], xs.modify j fun e => { e with key := a.eval i }, clock, ?_, two _ _ _ f4, by simp [g5], fun k u' e' hu he => ?_, by simp [gc], fun k u hu => ?_⟩
      · simp [execOp, ho, g3, Instr.mapEntry, run_underlying ht, Go.MapKept.run_getObj_map g4, hck, hfk, hj, f3, hborn, run_keyThatStays (key_is hko g1), run_setObj_map _ g4, Result.andThen, goInt]
      · rw [Array.getElem?_modify] at hu
        rw [List.getElem?_set] at he
        by_cases hkj : j = k
        · subst hkj
          rw [if_pos rfl] at hu he
          split at he
          · cases he
            rw [hj] at hu
            cases hu
            exact ⟨g1, f4⟩
          · cases he
        · rw [if_neg hkj] at hu he
          exact g6 k u' e' hu he
      · rw [Array.getElem?_modify] at hu
        split at hu
        · rename_i hkj
          subst hkj
          rw [hj] at hu
          cases hu
          exact hborn
        · exact gb k u hu
  split at h
  · rename_i m e3
    obtain ⟨ob, hob, h⟩ := atK_out _ _ _ h
    cases ob <;> first | exact (show False from h).elim | skip
    rename_i es
    obtain ⟨q, hq, h⟩ := h
    obtain ⟨hml, h⟩ := setAtK_out _ _ _ _ h
    refine ⟨_, _, _, h, fun μ w a hinv hp => ?_⟩
    have g1 := (hp.get hmi hi e1).pv
    obtain ⟨mi, k1, k2⟩ := hinv.at_l hob
    obtain ⟨b, rfl, g3⟩ := mapr_inv (hp.get hm hx e3) k1 k2
    cases k2 with
    | map _ clock xs _ k3 k4 k5 k6 k7 =>
      obtain ⟨c, xs', clock', c1, c0, c2, c3, c4, c5⟩ := fin a _ w b clock xs es q g1 g3 k3 k4 k5 k6 k7 hq
      obtain ⟨r1, r2⟩ := map_step_l hinv k1 k3 hml (ob' := .map q.2.2) fun w' hw' hle => .map b clock' xs' q.2.2 hw' c2 (fun j x e hx he => ⟨(c3 j x e hx he).1.mono hle.stays, (c3 j x e hx he).2.mono hle.stays⟩) c4 c5
      exact ⟨c, _, _, .inl c1, .p _ _ (c0.mono r2.stays), r1, r2, rfl⟩
  · rename_i m e3
    obtain ⟨ob, hob, h⟩ := atK_out _ _ _ h
    cases ob <;> first | exact (show False from h).elim | skip
    rename_i es
    obtain ⟨q, hq, h⟩ := h
    obtain ⟨hml, h⟩ := setAtK_out _ _ _ _ h
    refine ⟨_, _, _, h, fun μ w a hinv hp => ?_⟩
    have g1 := (hp.get hmi hi e1).pv
    obtain ⟨mi, k1, k2⟩ := hinv.at_b hob
    obtain ⟨b, rfl, g3⟩ := mapr_inv (hp.get hm hx e3) k1 k2
    cases k2 with
    | map _ clock xs _ k3 k4 k5 k6 k7 =>
      obtain ⟨c, xs', clock', c1, c0, c2, c3, c4, c5⟩ := fin a _ w b clock xs es q g1 g3 k3 k4 k5 k6 k7 hq
      obtain ⟨r1, r2⟩ := map_step_b hinv k1 k3 hml (ob' := .map q.2.2) fun w' hw' hle => .map b clock' xs' q.2.2 hw' c2 (fun j x e hx he => ⟨(c3 j x e hx he).1.mono hle.stays, (c3 j x e hx he).2.mono hle.stays⟩) c4 c5
      exact ⟨c, _, _, .inl c1, .p _ _ (c0.mono r2.stays), r1, r2, by simp⟩
  · exact h.elim

theorem born_find {xs : Array MapEntry} {j : Nat} (h : ∀ (j : Nat) (x : MapEntry), xs[j]? = some x → x.born = j) (hj : j < xs.size) : xs.findIdx? (fun e => (e.born : Int) == (j : Int)) = some j := by
  rw [Array.findIdx?_eq_some_iff_getElem]
  refine ⟨hj, ?_, fun k hk => ?_⟩
  · rw [h j _ (Array.getElem?_eq_getElem hj)]; simp
  · rw [h k _ (Array.getElem?_eq_getElem (by omega))]
    simp; omega

theorem s_msto {t kt et : TypeId} {x st y : Operand} {rx rs ry : Rv} (ho : o.op = .entryStore t x st y) (ht : P.underlying t = some (.map kt et))
    (hx : rv x = some rx) (hs : rv st = some rs) (hy : rv y = some ry) (h : opV P d (.msto rx rs ry) fr ba lo K) : Sound1 P o fr ba lo K := by
  have hm : x ∈ o.op.operands.toList := by simp [ho, Op.operands]
  have hms : st ∈ o.op.operands.toList := by simp [ho, Op.operands]
  have hmy : y ∈ o.op.operands.toList := by simp [ho, Op.operands]
  simp only [opV, evK_eq] at h
  split at h
  case h_2 => exact h.elim
  rename_i kj jj val e1 e2
  have fin : ∀ (a : Act) (M : Nat → Prop) (w : World) (b clock : Nat) (xs : Array MapEntry) (es : List (PV × PV)) (e0 : PV × PV), VP M w (a.eval y) val → a.eval st = .int kj jj → a.eval x = .map (some b) → w.heap[b]? = some (.map xs clock) → xs.size = es.length →
      (∀ (j : Nat) (x : MapEntry) (e : PV × PV), xs[j]? = some x → es[j]? = some e → VP M w x.key e.1 ∧ VP M w x.val e.2) → clock = xs.size → (∀ (j : Nat) (x : MapEntry), xs[j]? = some x → x.born = j) → 0 ≤ jj → es[jj.toNat]? = some e0 →
      ∃ (xs' : Array MapEntry), (execOp a.eval o).run P w = .ok .skip { w with heap := w.heap.setIfInBounds b (.map xs' clock) } ∧ xs'.size = (es.set jj.toNat (e0.1, val)).length ∧ (∀ (j : Nat) (x : MapEntry) (e : PV × PV), xs'[j]? = some x → (es.set jj.toNat (e0.1, val))[j]? = some e → VP M w x.key e.1 ∧ VP M w x.val e.2) ∧
        clock = xs'.size ∧ ∀ (j : Nat) (x : MapEntry), xs'[j]? = some x → x.born = j := fun a M w b clock xs es e0 g1 g2 g3 g4 g5 g6 gc gb h0 he0 => by
    have hlt : jj.toNat < xs.size := by rw [g5]; exact get_lt he0
    have hf := born_find gb hlt
    rw [Int.toNat_of_nonneg h0] at hf
    refine ⟨xs.modify jj.toNat fun e => { e with val := a.eval y }, ?_, by simp [g5], fun k u e' hu he => ?_, by simp [gc], fun k u hu => ?_⟩
    · simp [execOp, ho, g2, g3, Instr.entryStore, asInt, asInt_run, Go.MapKept.run_getObj_map g4, hf, run_setObj_map _ g4, Result.andThen]
    · rw [Array.getElem?_modify] at hu
      rw [List.getElem?_set] at he
      by_cases hkj : jj.toNat = k
      · subst hkj
        rw [if_pos rfl] at hu he
        split at he
        · cases he
          obtain ⟨u0, hu0, rfl⟩ := map_some hu
          exact ⟨(g6 _ u0 e0 hu0 he0).1, g1⟩
        · cases he
      · rw [if_neg hkj] at hu he
        exact g6 k u e' hu he
    · rw [Array.getElem?_modify] at hu
      split at hu
      · obtain ⟨u0, hu0, rfl⟩ := map_some hu
        exact gb k u0 hu0
      · exact gb k u hu
  split at h
  · rename_i m e3
    obtain ⟨ob, hob, h⟩ := atK_out _ _ _ h
    cases ob <;> first | exact (show False from h).elim | skip
    rename_i es
    obtain ⟨e0, ⟨h0, he0⟩, h⟩ := h
    obtain ⟨hml, h⟩ := setAtK_out _ _ _ _ h
    refine ⟨_, _, _, h, fun μ w a hinv hp => ?_⟩
    have g1 := (hp.get hmy hy e2).pv
    have g2 := (hp.get hms hs e1).int_inv
    obtain ⟨mi, k1, k2⟩ := hinv.at_l hob
    obtain ⟨b, rfl, g3⟩ := mapr_inv (hp.get hm hx e3) k1 k2
    cases k2 with
    | map _ clock xs _ k3 k4 k5 k6 k7 =>
      obtain ⟨xs', c1, c2, c3, c4, c5⟩ := fin a _ w b clock xs es e0 g1 g2 g3 k3 k4 k5 k6 k7 h0 he0
      obtain ⟨r1, r2⟩ := map_step_l hinv k1 k3 hml (ob' := .map (es.set jj.toNat (e0.1, val))) fun w' hw' hle => .map b clock xs' _ hw' c2 (fun j x e hx he => ⟨(c3 j x e hx he).1.mono hle.stays, (c3 j x e hx he).2.mono hle.stays⟩) c4 c5
      exact ⟨undef, _, _, .inr ⟨c1, rfl⟩, .p _ _ (.undef _), r1, r2, rfl⟩
  · rename_i m e3
    obtain ⟨ob, hob, h⟩ := atK_out _ _ _ h
    cases ob <;> first | exact (show False from h).elim | skip
    rename_i es
    obtain ⟨e0, ⟨h0, he0⟩, h⟩ := h
    obtain ⟨hml, h⟩ := setAtK_out _ _ _ _ h
    refine ⟨_, _, _, h, fun μ w a hinv hp => ?_⟩
    have g1 := (hp.get hmy hy e2).pv
    have g2 := (hp.get hms hs e1).int_inv
    obtain ⟨mi, k1, k2⟩ := hinv.at_b hob
    obtain ⟨b, rfl, g3⟩ := mapr_inv (hp.get hm hx e3) k1 k2
    cases k2 with
    | map _ clock xs _ k3 k4 k5 k6 k7 =>
      obtain ⟨xs', c1, c2, c3, c4, c5⟩ := fin a _ w b clock xs es e0 g1 g2 g3 k3 k4 k5 k6 k7 h0 he0
      obtain ⟨r1, r2⟩ := map_step_b hinv k1 k3 hml (ob' := .map (es.set jj.toNat (e0.1, val))) fun w' hw' hle => .map b clock xs' _ hw' c2 (fun j x e hx he => ⟨(c3 j x e hx he).1.mono hle.stays, (c3 j x e hx he).2.mono hle.stays⟩) c4 c5
      exact ⟨undef, _, _, .inr ⟨c1, rfl⟩, .p _ _ (.undef _), r1, r2, by simp⟩
  · exact h.elim

end ops
end Go.Proofs.YtgdimfogijfmiaaDoor.AD

namespace Go.Proofs.YtgdimfogijfmiaaDoor.AD
set_option linter.unusedVariables false
set_option linter.unusedSimpArgs false

section ops
variable {P : Program} {o : Oper} {fr : FR} {ba lo : List Ob} {K : AV → List Ob → List Ob → Prop} {d : Bool}

theorem part_scalar {t : TypeId} {k : SK} (ht : skOf P t = some k) {xs : Array Value} {off : Nat} {v : Value} {w : World} (h : xs[off]? = some v) : (part t xs off).run P w = .ok v w := by
  refine run_part_none ?_ h
  unfold skOf at ht
  unfold isAggT
  split at ht <;> first | (rename_i h; rw [h]) | cases ht

theorem eqf_out (dp : Nat) {M : Nat → Prop} {w : World} {xs ys : Array Value} : ∀ (fs : List Field) (i : Nat) (ks : List SK) (ca cb : List PV) (q : Bool), plainFields P i fs = some ks → (∀ (j : Nat) (c : PV), ca[j]? = some c → ∃ x, xs[i + j]? = some x ∧ VP M w x c) → (∀ (j : Nat) (c : PV), cb[j]? = some c → ∃ x, ys[i + j]? = some x ∧ VP M w x c) → eqCells ks ca cb = some q →
    (Op.eqFields (dp + 1) xs ys fs).run P w = .ok q w
  | [], i, ks, ca, cb, q, h, ha, hb, he => by
    cases h
    cases ca <;> cases cb <;> first | (cases he; rfl) | (simp [eqCells] at he)
  | f :: fs, i, ks, ca, cb, q, h, ha, hb, he => by
    simp only [plainFields] at h
    split at h
    case isFalse => cases h
    rename_i h12
    obtain ⟨h1, h2⟩ := h12
    split at h
    case h_2 => cases h
    rename_i k ks' h3 h4
    cases h
    have key : ∀ (c e : PV) (ra rb : List PV) (r q' : Bool), ca = c :: ra → cb = e :: rb → (∀ x y, VP M w x c → VP M w y e → (Op.equalIn (dp + 1) f.type x y).run P w = .ok r w) → eqCells ks' ra rb = some q' → q = (r && q') → (Op.eqFields (dp + 1) xs ys (f :: fs)).run P w = .ok q w := fun c e ra rb r q' ea eb g1 g2 g3 => by
      subst ea; subst eb; subst g3
      obtain ⟨x, hx, hvx⟩ := ha 0 c rfl
      obtain ⟨y, hy, hvy⟩ := hb 0 e rfl
      rw [Nat.add_zero, ← h1] at hx hy
      have hpx := part_scalar (w := w) h3 hx
      have hpy := part_scalar (w := w) h3 hy
      have ih := eqf_out dp fs (i + 1) ks' ra rb q' h4 (fun j c hc => by
        obtain ⟨x, hx, hv⟩ := ha (j + 1) c (by simpa using hc)
        exact ⟨x, by rw [← hx]; congr 1; omega, hv⟩) (fun j c hc => by
        obtain ⟨x, hx, hv⟩ := hb (j + 1) c (by simpa using hc)
        exact ⟨x, by rw [← hx]; congr 1; omega, hv⟩) g2
      simp only [Op.eqFields, Sem.run_bind, Sem.run_ite, if_pos h2, hpx, hpy, Result.andThen_ok, g1 x y hvx hvy]
      cases r
      · simp
      · simp [ih]
    rcases ca with _ | ⟨c, ra⟩
    · cases k <;> simp [eqCells] at he
    rcases cb with _ | ⟨e, rb⟩
    · cases k <;> cases c <;> simp [eqCells] at he
    have hu := h3
    unfold skOf at hu
    cases k <;> cases c <;> cases e <;> simp only [eqCells] at he <;> try (cases he; done)
    · rename_i i0 j a k b
      split at he
      case isFalse => cases he
      rename_i hjk
      obtain ⟨rfl, rfl⟩ := hjk
      obtain ⟨q', hq, rfl⟩ := map_some he
      refine key _ _ _ _ (a == b) q' rfl rfl (fun x y hx hy => ?_) hq rfl
      cases hx; cases hy
      split at hu <;> first | cases hu | skip
      rename_i k hk
      exact run_equalIn_int w dp f.type _ _ a b hk
    · rename_i a b
      obtain ⟨q', hq, rfl⟩ := map_some he
      refine key _ _ _ _ (a.toList == b.toList) q' rfl rfl (fun x y hx hy => ?_) hq rfl
      cases hx; cases hy
      split at hu <;> first | cases hu | skip
      rename_i hk
      exact run_equalIn_string w dp f.type a b hk
    · rename_i a b
      obtain ⟨q', hq, rfl⟩ := map_some he
      refine key _ _ _ _ (a == b) q' rfl rfl (fun x y hx hy => ?_) hq rfl
      cases hx; cases hy
      split at hu <;> first | cases hu | skip
      rename_i hk
      exact run_equalIn_bool' w dp f.type a b hk

theorem s_eqs {neg : Bool} {op : BinOp} {t yt : TypeId} {x y : Operand} {rx ry : Rv} {fs : Array Field} {ks : List SK} (ho : o.op = .binOp op t x y yt) (hop : op = if neg then .neq else .eql) (ht : P.underlying t = some (.struct fs)) (hk : plainFields P 0 fs.toList = some ks) (hst : P.stoodInHeld t = false) (hg : P.eqGuardType P.depth t = false)
    (hx : rv x = some rx) (hy : rv y = some ry) (h : opV P d (.eqs neg ks rx ry) fr ba lo K) : Sound1 P o fr ba lo K := by
  simp only [opV, evK_eq] at h
  split at h
  · rename_i a b e1 e2
    obtain ⟨q, hq, h⟩ := h
    have hf : P.fieldsOf t = fs := by unfold Program.fieldsOf; rw [ht]
    refine .quiet _ h fun μ w act hi hp => ⟨_, ?_, VA.bool' _ _ _⟩
    have h1 := (hp.get (by simp [ho, Op.operands]) hx e1).pv
    have h2 := (hp.get (by simp [ho, Op.operands]) hy e2).pv
    generalize hxv : act.eval x = xv at h1
    generalize hyv : act.eval y = yv at h2
    cases h1 with
    | agg xs _ k1 k2 k3 =>
      cases h2 with
      | agg ys _ l1 l2 l3 =>
        have he := eqf_out (P := P) 9998 (M := blocks μ) (w := w) (xs := xs) (ys := ys) fs.toList 0 ks a b q hk (fun j c hc => by
          have hj : j < xs.size := by rw [k1]; exact get_lt hc
          exact ⟨xs[j], by rw [Nat.zero_add]; exact Array.getElem?_eq_getElem hj, k2 j _ c (Array.getElem?_eq_getElem hj) hc⟩) (fun j c hc => by
          have hj : j < ys.size := by rw [l1]; exact get_lt hc
          exact ⟨ys[j], by rw [Nat.zero_add]; exact Array.getElem?_eq_getElem hj, l2 j _ c (Array.getElem?_eq_getElem hj) hc⟩) hq
        have heq : (Op.equalIn 10000 t (.agg xs) (.agg ys)).run P w = .ok q w := by
          rw [run_equalIn_struct w 9999 t xs ys (by rw [hf]; exact ht) hst, hf]
          exact he
        simp only [execOp, ho, Sem.run_bind, hxv, hyv]
        rw [run_eqGuard_agg w op t x y xs ys hg]
        cases neg
        · simp only [Bool.false_eq_true, if_false] at hop; subst hop
          simp only [Result.andThen_ok, run_eql_struct w t xs ys, heq]; rfl
        · simp only [if_true] at hop; subst hop
          simp only [Result.andThen_ok, run_neq_struct w t xs ys, heq]; rfl
  · exact h.elim

theorem s_mk {t e : TypeId} {l c : Operand} {rl rc : Rv} {i : TypeInfo} {z : Value} {z' : PV} (ho : o.op = .makeSlice t l c) (ht : P.underlying t = some (.slice e)) (hi : P.info? e = some i) (hz : i.zero = some z) (hz' : absZ z = some z') (hzs : z.cells.size = i.size) (h0 : 0 < i.size) (hb0 : 0 < i.bytes)
    (hl : rv l = some rl) (hc : rv c = some rc) (h : opV P d (.mk i.size i.bytes z' rl rc) fr ba lo K) : Sound1 P o fr ba lo K := by
  have hml : l ∈ o.op.operands.toList := by simp [ho, Op.operands]
  have hmc : c ∈ o.op.operands.toList := by simp [ho, Op.operands]
  simp only [opV, evK_eq] at h
  split at h
  · rename_i kl l' kc c' e1 e2
    obtain ⟨⟨g1, g2, g3⟩, zs, rfl, h⟩ := h
    rw [pushK_eq] at h
    refine ⟨_, _, _, h, fun μ w a hinv hp => ?_⟩
    have v1 := (hp.get hml hl e1).int_inv
    have v2 := (hp.get hmc hc e2).int_inv
    have g3' : c'.toNat * i.bytes ≤ 70368744177664 := g3
    have hle : c'.toNat ≤ 70368744177664 := Nat.le_trans (Nat.le_mul_of_pos_right _ hb0) g3'
    have hrun := run_make (P := P) w t e i z ht hi hz kl kc l' c' g1 g2 (by
      have : ((c'.toNat * i.bytes : Nat) : Int) ≤ 70368744177664 := Int.ofNat_le.2 g3'
      rw [Int.natCast_mul, Int.toNat_of_nonneg (by omega), Int.mul_comm] at this
      omega) (by omega)
    have hcell : ∀ k, k < c'.toNat * i.size → (madeCells z.cells (c'.toNat * i.size))[k]? = z.cells[k % i.size]? := fun k hk => by
      have hm : k % i.size < z.cells.size := by rw [hzs]; exact Nat.mod_lt _ h0
      unfold madeCells
      rw [Array.getElem?_map, Array.getElem?_range, if_pos hk]
      simp only [Option.map_some, hzs]
      rw [getElem!_pos z.cells _ hm, Array.getElem?_eq_getElem hm]
    have hle2 : l'.toNat ≤ c'.toNat := by omega
    have hzv := fun M w => absZ_sound hz' M w
    have hone : ∀ (j : Nat) (x : Value), z.cells[j]? = some x → x.oneCell' = true := fun j x hx => by
      unfold absZ at hz'
      split at hz'
      · rename_i cs
        obtain ⟨es, h1, _⟩ := map_some hz'
        exact (absPs_sound h1 (fun _ => False) w).2.2 j x (by simpa [Value.cells] using hx)
      · have h1 := (absP_sound hz' (fun _ => False) w).2
        rw [cells_of_oneCell h1] at hx
        cases j with
        | zero => simp at hx; rw [← hx]; exact h1
        | succ j => simp at hx
    obtain ⟨h3, h4, h5⟩ := hinv.push (w' := w.alloc (.cells (madeCells z.cells (c'.toNat * i.size)) e)) (.buf (some w.heap.size) 0 (c'.toNat * i.size)) (.buf 0 i.size (List.replicate l'.toNat z')) (fun b hb => by cases hb; exact Nat.le_refl _) rfl rfl rfl (by simp) (fun b hb => heap_alloc_old w _ b hb) fun hle =>
      .buf _ 0 _ _ _ e _ (fun _ => z) (heap_alloc_new w _) (size_madeCells _ _) (by rw [List.length_replicate]; exact Nat.mul_le_mul_right _ hle2) fun j el he => by
        rw [List.getElem?_replicate] at he
        split at he
        · rename_i hj
          cases he
          refine ⟨hzs, fun k x hx => ⟨hone k x hx, ?_⟩, hzv _ _⟩
          have hk : k < i.size := by rw [← hzs]; exact (Array.getElem?_eq_some_iff.1 hx).1
          have hlt : j * i.size + k < c'.toNat * i.size := by
            have := Nat.mul_le_mul_right i.size (show j + 1 ≤ c'.toNat by omega)
            rw [Nat.add_mul, Nat.one_mul] at this
            omega
          rw [hcell _ hlt, Nat.mul_comm, Nat.mul_add_mod, Nat.mod_eq_of_lt hk]
          exact hx
        · cases he
    refine ⟨_, _, _, .inl (by simp only [execOp, ho, Sem.run_bind, v1, v2, hrun]; rfl), ?_, h3, h4, rfl⟩
    exact .view _ 0 _ _ w.heap.size _ _ h5 hle2 rfl
  · exact h.elim

theorem absZ_cells {z : Value} {z' : PV} (h : absZ z = some z') (w : World) (j : Nat) (x : Value) (hx : z.cells[j]? = some x) : x.oneCell' = true := by
  unfold absZ at h
  split at h
  · rename_i cs
    obtain ⟨es, h1, _⟩ := map_some h
    exact (absPs_sound h1 (fun _ => False) w).2.2 j x (by simpa [Value.cells] using hx)
  · have h1 := (absP_sound h (fun _ => False) w).2
    rw [cells_of_oneCell h1] at hx
    cases j with
    | zero => simp at hx; rw [← hx]; exact h1
    | succ j => simp at hx

theorem s_mkA {t e : TypeId} {l c : Operand} {rl rc : Rv} {i : TypeInfo} {z : Value} (ho : o.op = .makeSlice t l c) (ht : P.underlying t = some (.slice e)) (hi : P.info? e = some i) (hz : i.zero = some z) (hz' : absZ z = some .nils) (hzs : z.cells.size = i.size) (h1 : i.size = 1) (hb0 : 0 < i.bytes)
    (hl : rv l = some rl) (hc : rv c = some rc) (h : opV P d (.mkA i.bytes .nils rl rc) fr ba lo K) : Sound1 P o fr ba lo K := by
  have hml : l ∈ o.op.operands.toList := by simp [ho, Op.operands]
  have hmc : c ∈ o.op.operands.toList := by simp [ho, Op.operands]
  simp only [opV, evK_eq] at h
  split at h
  · rename_i kl l' kc c' e1 e2
    obtain ⟨⟨g1, g2, g3⟩, zs, rfl, h⟩ := h
    rw [pushK_eq] at h
    refine ⟨_, _, _, h, fun μ w a hinv hp => ?_⟩
    have v1 := (hp.get hml hl e1).int_inv
    have v2 := (hp.get hmc hc e2).int_inv
    have g3' : c'.toNat * i.bytes ≤ 70368744177664 := g3
    have hle : c'.toNat ≤ 70368744177664 := Nat.le_trans (Nat.le_mul_of_pos_right _ hb0) g3'
    have hrun := run_make (P := P) w t e i z ht hi hz kl kc l' c' g1 g2 (by
      have : ((c'.toNat * i.bytes : Nat) : Int) ≤ 70368744177664 := Int.ofNat_le.2 g3'
      rw [Int.natCast_mul, Int.toNat_of_nonneg (by omega), Int.mul_comm] at this
      omega) (by omega)
    have hle2 : l'.toNat ≤ c'.toNat := by omega
    have zc : z = .slice none 0 0 := by
      have := absZ_sound hz' (fun _ => False) w
      cases this; rfl
    have hzv := fun M w => absZ_sound hz' M w
    obtain ⟨h3, h4, h5⟩ := hinv.push (w' := w.alloc (.cells (madeCells z.cells (c'.toNat * i.size)) e)) (.buf (some w.heap.size) 0 (c'.toNat * i.size)) (.bufA 0 (List.replicate l'.toNat (.p .nils))) (fun b hb => by cases hb; exact Nat.le_refl _) rfl rfl rfl (by simp) (fun b hb => heap_alloc_old w _ b hb) fun hle =>
      .bufA _ 0 _ _ e _ (heap_alloc_new w _) (size_madeCells _ _) (by rw [List.length_replicate, h1, Nat.mul_one]; exact hle2) fun j x c hx hcc => by
        rw [List.getElem?_replicate] at hcc
        split at hcc
        · cases hcc
          have hk : j < c'.toNat * i.size := by have := aget_lt hx; rw [size_madeCells] at this; exact this
          unfold madeCells at hx
          rw [Array.getElem?_map, Array.getElem?_range, if_pos hk] at hx
          simp only [Option.map_some, hzs, h1, Nat.mod_one, Option.some.injEq] at hx
          rw [getElem!_pos z.cells 0 (by omega)] at hx
          subst hx
          subst zc
          exact ⟨.p _ _ .nils, rfl⟩
        · cases hcc
    refine ⟨_, _, _, .inl (by simp only [execOp, ho, Sem.run_bind, v1, v2, hrun]; rfl), ?_, h3, h4, rfl⟩
    exact .view _ 0 _ _ w.heap.size _ _ h5 hle2 (by rw [h1])
  · exact h.elim

theorem zero_row {M : Nat → Prop} {w : World} {z : Value} {z' : PV} {sz : Nat} (hz : absZ z = some z') (hs : z.cells.size = sz) (h0 : 0 < sz) (n : Nat) : RowOf M w sz (fun k => (Builtin.zeroCells z.cells n).toList[k]?) (List.replicate n z') := by
  refine ⟨fun _ => z, fun j e he => hs, fun j e he k x hx => ⟨absZ_cells hz w k x hx, ?_⟩, fun j e he => ?_⟩
  · have hj : j < n := by
      rw [List.getElem?_replicate] at he
      split at he
      · assumption
      · cases he
    have hk : k < sz := by rw [← hs]; exact aget_lt hx
    have hlt : j * sz + k < n * sz := idx_lt hj hk
    show (Builtin.zeroCells z.cells n).toList[j * sz + k]? = some x
    rw [Array.getElem?_toList]
    unfold Builtin.zeroCells
    rw [Array.getElem?_map, Array.getElem?_range, if_pos (by rw [hs]; exact hlt)]
    simp only [Option.map_some, hs]
    rw [Nat.mul_comm, Nat.mul_add_mod, Nat.mod_eq_of_lt hk, getElem!_pos z.cells k (by omega), ← hx, Array.getElem?_eq_getElem]
  · rw [List.getElem?_replicate] at he
    split at he
    · cases he; exact absZ_sound hz _ _
    · cases he

theorem s_clr {t e : TypeId} {x : Operand} {rx : Rv} {i : TypeInfo} {z : Value} {z' : PV} (ho : o.op = .call { callee := .builtin .clear, args := #[x], argTypes := #[t] }) (ht : P.underlying t = some (.slice e)) (hi : P.info? e = some i) (hz : i.zero = some z) (hz' : absZ z = some z') (hzs : z.cells.size = i.size) (h0 : 0 < i.size)
    (hx : rv x = some rx) (h : opV P d (.clr i.size z' rx) fr ba lo K) : Sound1 P o fr ba lo K := by
  have hm : x ∈ o.op.operands.toList := by simp [ho, Op.operands, Call.operands]
  simp only [opV, evK_eq] at h
  have run0 : ∀ (a : Act) (w : World) (A : Option Addr) (cap : Nat), a.eval x = .slice A 0 cap → (execOp a.eval o).run P w = .ok (.value (.tuple #[])) w := fun a w A cap h1 => by
    cases A <;> simp [execOp, ho, resolve, invoke, builtin, h1, Builtin.clear_, run_underlying ht]
  have run1 : ∀ (a : Act) (w w' : World) (ad : Addr) (n cap : Nat), a.eval x = .slice (some ad) (n + 1) cap → (storeCells ad (Builtin.zeroCells z.cells (n + 1)).toList).run P w = .ok () w' → (execOp a.eval o).run P w = .ok (.value (.tuple #[])) w' := fun a w w' ad n cap h1 h2 => by
    simp [execOp, ho, resolve, invoke, builtin, h1, Builtin.clear_, run_underlying ht, zeroValue, typeInfo, hi, hz, h2]
  -- the row behind it
  have key : ∀ (μ : List MI) (w : World) (a : Act) (r : Rf) (g off len : Nat) (es : List PV) (mi : MI), Ctx.at ⟨blocks μ, ba.length, μ⟩ r = some mi → ObOk ⟨blocks μ, ba.length, μ⟩ w mi (.buf g i.size es) → VA ⟨blocks μ, ba.length, μ⟩ w (a.eval x) (.tail r g i.size off len) → off + len ≤ es.length →
      ((execOp a.eval o).run P w = .ok (.value (.tuple #[])) w ∧ len = 0) ∨ ∃ (b : Nat) (xs : Array Value) (ty : TypeId) (ys : Array Value), mi = .buf (some b) g xs.size ∧ w.heap[b]? = some (.cells xs ty (0, 0)) ∧ (execOp a.eval o).run P w = .ok (.value (.tuple #[])) (w.setRow b ys) ∧ ys.size = xs.size ∧ es.length * i.size ≤ xs.size ∧
        ∀ (M : Nat → Prop) (w' : World), Stays (blocks μ) w M w' → RowOf M w' i.size (fun k => ys[k]?) (es.take off ++ List.replicate len z' ++ es.drop (off + len)) := by
    intro μ w a r g off len es mi hat hob hv hlen
    have hne : len = 0 ∨ 0 < len := by omega
    rcases hob.row with ⟨n', rfl, rfl⟩ | ⟨b, xs, ty, rfl, hb, hle, hr⟩
    · obtain rfl : len = 0 := by simp at hlen; omega
      rcases tail_inv hv hat with ⟨_, A, h6⟩ | ⟨b', cap, e', _⟩
      · exact .inl ⟨run0 a w A 0 h6, rfl⟩
      · cases e'
    · rcases tail_inv hv hat with ⟨rfl, A, h6⟩ | ⟨b', cap, e', h6, h7, h8⟩
      · exact .inl ⟨run0 a w A 0 h6, rfl⟩
      · cases e'
        cases len with
        | zero => exact .inl ⟨run0 a w _ cap h6, rfl⟩
        | succ n =>
          have hzl : (Builtin.zeroCells z.cells (n + 1)).toList.length = (n + 1) * i.size := by rw [Array.length_toList, size_zeroCells, hzs]
          have hzr := fun M w => zero_row (M := M) (w := w) hz' hzs h0 (n + 1)
          have hfit : off * i.size + (Builtin.zeroCells z.cells (n + 1)).toList.length ≤ xs.size := by
            rw [hzl, ← Nat.add_mul, ← h8]; exact Nat.mul_le_mul_right _ (by omega)
          have hone : ∀ u, u ∈ (Builtin.zeroCells z.cells (n + 1)).toList → u.oneCell' = true := fun u hu => by
            obtain ⟨k, hk⟩ := List.getElem?_of_mem hu
            have hkl := get_lt hk
            rw [hzl] at hkl
            obtain ⟨u', h9, h10⟩ := (hzr (fun _ => False) w).all k (by rw [List.length_replicate]; exact hkl)
            rw [hk] at h9
            cases h9
            exact h10
          have hst := run_storeCells_at P b (off * i.size) ty (Builtin.zeroCells z.cells (n + 1)).toList 0 xs w hb (by simpa using hfit) hone
          simp only [Nat.add_zero] at hst
          have f1 : off * i.size + (Builtin.zeroCells z.cells (n + 1)).toList.length ≤ xs.toList.length := by rw [Array.length_toList (xs := xs)]; exact hfit
          refine .inr ⟨b, xs, ty, _, rfl, hb, run1 a w _ _ n cap h6 hst, by rw [List.size_toArray, splice_len f1, Array.length_toList], hle, fun M w' hs => ?_⟩
          have r1 : RowOf M w' i.size (fun k => (xs.toList.take (off * i.size) ++ (Builtin.zeroCells z.cells (n + 1)).toList ++ xs.toList.drop (off * i.size + (Builtin.zeroCells z.cells (n + 1)).toList.length)).toArray[k]?) (es.take off ++ List.replicate (n + 1) z') := by
            refine ((hr.take off).mono hs).append (hzr M w') (fun k hk => ?_) fun k hk => ?_
            · rw [List.length_take, Nat.min_eq_left (by omega)] at hk
              rw [arr_splice_get f1, if_neg (by omega)]; simp
            · rw [List.length_replicate] at hk
              rw [List.length_take, Nat.min_eq_left (by omega), arr_splice_get f1, hzl, if_pos (by omega), show off * i.size + k - off * i.size = k by omega, Array.getElem?_toList]
          refine r1.append ((hr.drop (off + (n + 1)) (g := fun k => xs[(off + (n + 1)) * i.size + k]?) fun k => rfl).mono hs) (fun k hk => rfl) fun k hk => ?_
          rw [List.length_append, List.length_take, Nat.min_eq_left (by omega), List.length_replicate, arr_splice_get f1, hzl, if_neg (by rw [Nat.add_mul]; omega)]
          simp
  have same : ∀ (es : List PV) (off : Nat), es.take off ++ List.replicate 0 z' ++ es.drop (off + 0) = es := fun es off => by simp
  split at h
  · rename_i m g sz' off len e1
    obtain ⟨ob, hob, h⟩ := atK_out _ _ _ h
    cases ob <;> first | exact (show False from h).elim | skip
    rename_i g' sz'' es
    obtain ⟨⟨q1, q2, q3, hlen⟩, hgood⟩ := h
    subst q1; subst q2; subst q3
    obtain ⟨hml, hgood⟩ := setAtK_out _ _ _ _ hgood
    refine ⟨_, _, _, hgood, fun μ w a hinv hp => ?_⟩
    obtain ⟨mi, k1, k2⟩ := hinv.at_l hob
    have hmi : μ[ba.length + m]? = some mi := k1
    rcases key μ w a (.l m) g off len es mi k1 k2 (hp.get hm hx e1) hlen with ⟨c1, rfl⟩ | ⟨b, xs, ty, ys, rfl, c1, c2, c3, c4, c5⟩
    · rw [same, show lo.set m (.buf g i.size es) = lo from List.ext_getElem? fun j => by
        rw [List.getElem?_set]
        split
        · rename_i hj; subst hj; exact hob.symm
        · rfl]
      exact ⟨_, w, μ, .inl c1, .p _ _ (.undef _), hinv, .refl _ _, rfl⟩
    · obtain ⟨r1, r2⟩ := hinv.change (w' := w.setRow b ys) (ba' := ba) (lo' := lo.set m (.buf g i.size (es.take off ++ List.replicate len z' ++ es.drop (off + len)))) hmi (.refl _)
        (fun b' hb' => .inl hb') rfl rfl rfl (by simp) (fun b' hb' hne => setRow_other w b b' _ (fun e => hne (by rw [e]; rfl))) rfl (by simp) (fun j hj => rfl)
        (fun k hk => by rw [List.getElem?_set_ne (by omega)]) (fun hle o' hlt => by omega) (fun hle k o' hk ho' => by
          have hk' : k = m := by omega
          subst hk'
          rw [List.getElem?_set, if_pos rfl, if_pos hml] at ho'
          cases ho'
          have := ObOk.of_row (Γ := ⟨blocks (μ.set (ba.length + k) (.buf (some b) g xs.size)), ba.length, μ.set (ba.length + k) (.buf (some b) g xs.size)⟩) (g := g) (setRow_heap w b xs ys ty (0, 0) c1) (by rw [c3]; simp only [List.length_append, List.length_take, List.length_replicate, List.length_drop]; rw [show min off es.length + len + (es.length - (off + len)) = es.length by omega]; exact c4) (c5 _ _ hle.stays)
          rw [c3] at this
          exact this)
      exact ⟨_, _, _, .inl c2, .p _ _ (.undef _), r1, r2, rfl⟩
  · rename_i m g sz' off len e1
    obtain ⟨ob, hob, h⟩ := atK_out _ _ _ h
    cases ob <;> first | exact (show False from h).elim | skip
    rename_i g' sz'' es
    obtain ⟨⟨q1, q2, q3, hlen⟩, hgood⟩ := h
    subst q1; subst q2; subst q3
    obtain ⟨hml, hgood⟩ := setAtK_out _ _ _ _ hgood
    refine ⟨_, _, _, hgood, fun μ w a hinv hp => ?_⟩
    obtain ⟨mi, k1, k2⟩ := hinv.at_b hob
    have hmi : μ[m]? = some mi := by
      have g3 := k1
      simp only [Ctx.at] at g3
      rw [if_pos hml] at g3
      exact g3
    rcases key μ w a (.b m) g off len es mi k1 k2.of_take (hp.get hm hx e1) hlen with ⟨c1, rfl⟩ | ⟨b, xs, ty, ys, rfl, c1, c2, c3, c4, c5⟩
    · rw [same, show ba.set m (.buf g i.size es) = ba from List.ext_getElem? fun j => by
        rw [List.getElem?_set]
        split
        · rename_i hj; subst hj; exact hob.symm
        · rfl]
      exact ⟨_, w, μ, .inl c1, .p _ _ (.undef _), hinv, .refl _ _, rfl⟩
    · obtain ⟨r1, r2⟩ := hinv.change (w' := w.setRow b ys) (ba' := ba.set m (.buf g i.size (es.take off ++ List.replicate len z' ++ es.drop (off + len)))) (lo' := lo) hmi (.refl _)
        (fun b' hb' => .inl hb') rfl rfl rfl (by simp) (fun b' hb' hne => setRow_other w b b' _ (fun e => hne (by rw [e]; rfl))) (by simp) rfl
        (fun j hj => by rw [List.getElem?_set_ne (fun e => hj e.symm)]) (fun k hk => rfl) (fun hle o' hlt ho' => by
          rw [List.getElem?_set, if_pos rfl, if_pos hml] at ho'
          cases ho'
          have := ObOk.of_row (Γ := ⟨blocks (μ.set m (.buf (some b) g xs.size)), ba.length, (μ.set m (.buf (some b) g xs.size)).take ba.length⟩) (g := g) (setRow_heap w b xs ys ty (0, 0) c1) (by rw [c3]; simp only [List.length_append, List.length_take, List.length_replicate, List.length_drop]; rw [show min off es.length + len + (es.length - (off + len)) = es.length by omega]; exact c4) (c5 _ _ hle.stays)
          rw [c3] at this
          exact this) (fun hle k o' hk => by omega)
      exact ⟨_, _, _, .inl c2, .p _ _ (.undef _), r1, r2, by simp⟩
  · exact h.elim

end ops
end Go.Proofs.YtgdimfogijfmiaaDoor.AD
