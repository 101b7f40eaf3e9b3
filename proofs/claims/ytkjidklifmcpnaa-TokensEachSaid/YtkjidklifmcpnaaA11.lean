/- A plainer machine, eleven: new objects, values put together, stores. -/
import Derived.Test.YtkjidklifmcpnaaA10
namespace Go.Proofs.Ytkjidklifmcpnaa.AD
set_option linter.unusedVariables false

section ops
variable {P : Program} {o : Oper} {fr : FR} {ba lo : List Ob} {K : AV → List Ob → List Ob → Prop} {d : Bool}

/-- A new block of cells as an object of the call's own. -/
theorem Inv.push_cells {μ : List MI} {w : World} (h : Inv μ w ba lo) (xs : Array Value) (t : TypeId) (cs : List AV) (hc : CellsV ⟨blocks μ, ba.length, μ⟩ w xs cs) (h1 : ∀ (j : Nat) (x : Value), xs[j]? = some x → x.oneCell' = true) :
    Inv (μ ++ [.cells w.heap.size]) (w.alloc (.cells xs t)) ba (lo ++ [.cells cs]) ∧ Le μ w (μ ++ [.cells w.heap.size]) (w.alloc (.cells xs t)) ∧
      Ctx.at ⟨blocks (μ ++ [.cells w.heap.size]), ba.length, μ ++ [.cells w.heap.size]⟩ (.l lo.length) = some (.cells w.heap.size) := by
  refine h.push (.cells w.heap.size) (.cells cs) (fun b hb => by cases hb; exact Nat.le_refl _) rfl rfl rfl (by simp) (fun b hb => heap_alloc_old w _ b hb) fun hle => ?_
  exact .cells _ xs t cs (heap_alloc_new w _) hc.1 fun j x c hx hcj => ⟨(hc.2 j x c hx hcj).mono hle.stays hle.above, h1 j x hx⟩

theorem s_box {t : TypeId} {x : Operand} {rx : Rv} (ho : o.op = .box t x) (hx : rv x = some rx) (h : opV P d (.box rx) fr ba lo K) : Sound1 P o fr ba lo K := by
  have hm : x ∈ o.op.operands.toList := by simp [ho, Op.operands]
  simp only [opV, evK_eq] at h
  obtain ⟨cs, h1, h2, h⟩ := cellsK_out h
  rw [pushK_eq] at h
  refine ⟨_, _, _, h, fun μ w a hi hp => ?_⟩
  have hv := (hp.get hm hx rfl).cells h1
  obtain ⟨h3, h4, h5⟩ := hi.push_cells (a.eval x).cells t cs hv fun j x hx => hv.one h2 j x hx
  exact ⟨.pointer (some ⟨w.heap.size, 0, none⟩), _, _, .inl (by simp [execOp, ho, Instr.box, newVar, newRow]), .ref _ _ _ h5, h3, h4, rfl⟩

theorem s_alloc {t : TypeId} {i : TypeInfo} {z : Value} {cs : List PV} (ho : o.op = .alloc t) (hi : P.info? t = some i) (hz : i.zero = some z) (hc : absPs z.cells.toList = some cs) (h : opV P d (.alloc cs) fr ba lo K) : Sound1 P o fr ba lo K := by
  simp only [opV, upPK_eq, pushK_eq] at h
  refine ⟨_, _, _, h, fun μ w a hi' hp => ?_⟩
  obtain ⟨a1, a2, a3⟩ := absPs_sound hc (blocks μ) w
  obtain ⟨h3, h4, h5⟩ := hi'.push_cells z.cells t (cs.map AV.p) ⟨by simpa using a1, fun j x c hx hc => by
    rw [List.getElem?_map] at hc
    obtain ⟨p, hp, rfl⟩ := Option.map_eq_some_iff.1 hc
    exact .p _ _ (a2 j x p (by simpa using hx) hp)⟩ fun j x hx => a3 j x (by simpa using hx)
  exact ⟨.pointer (some ⟨w.heap.size, 0, none⟩), _, _, .inl (by simp [execOp, ho, Instr.alloc, newVar, newRow, zeroValue, typeInfo, hi, hz]), .ref _ _ _ h5, h3, h4, rfl⟩

/-! #### parts -/

theorem fill_one (place : Nat → Option (Nat × Nat)) (cells : Array Value) (i off n : Nat) (v : Value) (rest : List (Nat × Value)) (hp : place i = some (off, n)) (hv : v.cells.size = n) (hn : off + n ≤ cells.size) :
    ∃ arr : Array Value, Instr.fill place cells ((i, v) :: rest) = Instr.fill place arr rest ∧ arr.size = cells.size ∧ ∀ k, arr[k]? = if off ≤ k ∧ k < off + n then v.cells[k - off]? else cells[k]? := by
  obtain ⟨g1, g2⟩ := Great.foldl_set off v.cells.toList 0 cells
  refine ⟨(v.cells.toList.zipIdx 0).foldl (fun cs (x : Value × Nat) => cs.setIfInBounds (off + x.2) x.1) cells, ?_, g1, fun k => ?_⟩
  · conv => lhs; unfold Instr.fill
    simp only [hp, hv]
    rw [if_neg (by simp; omega)]
    rw [← Array.foldl_toList, Array.toList_zipIdx]
  · rw [g2 k]
    simp only [Nat.add_zero, Array.length_toList, hv]
    by_cases hk : off ≤ k ∧ k < off + n
    · rw [if_pos ⟨hk.1, hk.2, by omega⟩, if_pos hk]; simp
    · rw [if_neg (fun h => hk ⟨h.1, h.2.1⟩), if_neg hk]

theorem splice_get {α : Type} {off : Nat} {vs l : List α} (h : off + vs.length ≤ l.length) (k : Nat) : (l.take off ++ vs ++ l.drop (off + vs.length))[k]? = if off ≤ k ∧ k < off + vs.length then vs[k - off]? else l[k]? := by
  have h1 : (l.take off).length = off := by rw [List.length_take]; omega
  by_cases hk : k < off
  · rw [if_neg (by omega), List.append_assoc, List.getElem?_append_left (by omega), List.getElem?_take, if_pos hk]
  · by_cases hk2 : k < off + vs.length
    · rw [if_pos ⟨by omega, hk2⟩, List.append_assoc, List.getElem?_append_right (by omega), h1, List.getElem?_append_left (by omega)]
    · rw [if_neg (by omega), List.getElem?_append_right (by rw [List.length_append]; omega), List.length_append, h1, List.getElem?_drop]
      congr 1
      omega
theorem splice_len {α : Type} {off : Nat} {vs l : List α} (h : off + vs.length ≤ l.length) : (l.take off ++ vs ++ l.drop (off + vs.length)).length = l.length := by
  simp; omega

theorem partsK_eq : ∀ (l : List (Nat × Nat × Rv)) (fr : FR) (k : List (Nat × Nat × AV) → Prop), partsK l fr k = k (l.map fun x => (x.1, x.2.1, evF x.2.2 fr))
  | [], fr, k => rfl
  | (o, n, x) :: r, fr, k => by simp only [partsK, evK_eq, partsK_eq r, List.map_cons]

theorem fill_sound (place : Nat → Option (Nat × Nat)) : ∀ (ps : List (Nat × Nat × AV)) (cs : List AV) (k : List AV → Prop), fillK ps cs k → ∃ cs', k cs' ∧ ∀ (Γ : Ctx) (w : World) (cells : Array Value) (vs : List (Nat × Value)),
    CellsV Γ w cells cs → (∀ (j : Nat) (x : Value), cells[j]? = some x → x.oneCell' = true) → vs.length = ps.length →
    (∀ (j : Nat) (i : Nat) (v : Value) (o n : Nat) (a : AV), vs[j]? = some (i, v) → ps[j]? = some (o, n, a) → place i = some (o, n) ∧ VA Γ w v a) →
    ∃ cells', Instr.fill place cells vs = some cells' ∧ CellsV Γ w cells' cs' ∧ ∀ (j : Nat) (x : Value), cells'[j]? = some x → x.oneCell' = true
  | [], cs, k, h => ⟨cs, h, fun Γ w cells vs h1 h2 h3 h4 => by
      have : vs = [] := List.length_eq_zero_iff.1 h3
      subst this
      exact ⟨cells, rfl, h1, h2⟩⟩
  | (off, n, a) :: ps, cs, k, h => by
    simp only [fillK] at h
    obtain ⟨news, h1, h2, h⟩ := cellsK_out h
    cases hb : Nat.beq news.length n with
    | false => rw [hb] at h; exact h.elim
    | true =>
      rw [hb] at h
      have hn : news.length = n := Nat.eq_of_beq_eq_true hb
      simp only [cond_true] at h
      obtain ⟨h3, h⟩ := spliceK_out _ _ _ _ h
      obtain ⟨cs', hk, hl⟩ := fill_sound place ps _ k h
      refine ⟨cs', hk, fun Γ w cells vs g1 g2 g3 g4 => ?_⟩
      match vs, g3 with
      | (i, v) :: rest, g3 =>
        obtain ⟨p1, p2⟩ := g4 0 i v off n a rfl rfl
        have hv := p2.cells h1
        have hsz : v.cells.size = n := by rw [hv.1, hn]
        obtain ⟨arr, f1, f2, f3⟩ := fill_one place cells i off n v rest p1 hsz (by rw [g1.1, ← hn]; exact h3)
        have key : ∀ (j : Nat) (x : Value), arr[j]? = some x → (off ≤ j ∧ j < off + n ∧ v.cells[j - off]? = some x) ∨ (¬ (off ≤ j ∧ j < off + n) ∧ cells[j]? = some x) := fun j x hx => by
          rw [f3 j] at hx
          by_cases hj : off ≤ j ∧ j < off + n
          · rw [if_pos hj] at hx; exact .inl ⟨hj.1, hj.2, hx⟩
          · rw [if_neg hj] at hx; exact .inr ⟨hj, hx⟩
        obtain ⟨cells', q1, q2, q3⟩ := hl Γ w arr rest ⟨by rw [f2, g1.1, splice_len h3], fun j x c hx hc => by
            rw [splice_get h3, hn] at hc
            rcases key j x hx with ⟨k1, k2, k3⟩ | ⟨k1, k2⟩
            · rw [if_pos ⟨k1, k2⟩] at hc; exact hv.2 _ _ _ k3 hc
            · rw [if_neg k1] at hc; exact g1.2 _ _ _ k2 hc⟩ (fun j x hx => by
            rcases key j x hx with ⟨k1, k2, k3⟩ | ⟨k1, k2⟩
            · exact hv.one h2 _ _ k3
            · exact g2 _ _ k2) (by simpa using g3) (fun j i' v' o' n' a' e1 e2 => g4 (j + 1) i' v' o' n' a' (by simpa using e1) (by simpa using e2))
        exact ⟨cells', by rw [f1]; exact q1, q2, q3⟩

theorem structParts_out {places : List (Nat × Nat)} : ∀ {l : List (Nat × Operand)} {ps : List (Nat × Nat × Rv)}, structParts places l = some ps → l.length = ps.length ∧ ∀ (j i : Nat) (x : Operand) (o n : Nat) (r : Rv), l[j]? = some (i, x) → ps[j]? = some (o, n, r) → places[i]? = some (o, n) ∧ rv x = some r
  | [], ps, h => by cases h; exact ⟨rfl, fun j i x o n r h => by simp at h⟩
  | (i, x) :: l, ps, h => by
    simp only [structParts] at h
    split at h
    · rename_i o n v ps' h1 h2 h3
      cases h
      obtain ⟨a1, a2⟩ := structParts_out h3
      refine ⟨by simp [a1], fun j i' x' o' n' r e1 e2 => ?_⟩
      cases j with
      | zero => simp at e1 e2; obtain ⟨rfl, rfl⟩ := e1; obtain ⟨rfl, rfl, rfl⟩ := e2; exact ⟨h1, h2⟩
      | succ j => exact a2 j i' x' o' n' r (by simpa using e1) (by simpa using e2)
    · cases h
theorem arrayParts_out {size : Nat} : ∀ {l : List (Nat × Operand)} {ps : List (Nat × Nat × Rv)}, arrayParts size l = some ps → l.length = ps.length ∧ ∀ (j i : Nat) (x : Operand) (o n : Nat) (r : Rv), l[j]? = some (i, x) → ps[j]? = some (o, n, r) → o = i * size ∧ n = size ∧ rv x = some r
  | [], ps, h => by cases h; exact ⟨rfl, fun j i x o n r h => by simp at h⟩
  | (i, x) :: l, ps, h => by
    simp only [arrayParts] at h
    split at h
    · rename_i v ps' h1 h2
      cases h
      obtain ⟨a1, a2⟩ := arrayParts_out h2
      refine ⟨by simp [a1], fun j i' x' o' n' r e1 e2 => ?_⟩
      cases j with
      | zero => simp at e1 e2; obtain ⟨rfl, rfl⟩ := e1; obtain ⟨rfl, rfl, rfl⟩ := e2; exact ⟨rfl, rfl, h1⟩
      | succ j => exact a2 j i' x' o' n' r (by simpa using e1) (by simpa using e2)
    · cases h

theorem s_build {t : TypeId} {parts : Array (Nat × Operand)} {zs : List PV} {ps : List (Nat × Nat × Rv)} {i : TypeInfo} {z : Value} (ho : o.op = .build t parts) (hi : P.info? t = some i) (hz : i.zero = some z) (hzs : absPs z.cells.toList = some zs)
    (hk : (∃ fields places, P.underlying t = some (.struct fields) ∧ placesOf P fields = some places ∧ structParts places parts.toList = some ps) ∨ (∃ n e ie, P.underlying t = some (.array n e) ∧ P.info? e = some ie ∧ arrayParts ie.size parts.toList = some ps))
    (h : opV P d (.build zs ps) fr ba lo K) : Sound1 P o fr ba lo K := by
  simp only [opV, partsK_eq, upPK_eq] at h
  have mem : ∀ {j i' : Nat} {x : Operand}, parts.toList[j]? = some (i', x) → x ∈ o.op.operands.toList := fun {j i' x} hj => by
    rw [ho]
    simp only [Op.operands]
    exact List.mem_map.2 ⟨(i', x), List.mem_of_getElem? hj, rfl⟩
  have run : ∀ (a : Act) (w : World) (cells : Array Value), P.built t (parts.toList.map fun x => (x.1, a.eval x.2)) = some cells → (execOp a.eval o).run P w = .ok (.value (.agg cells)) w := fun a w cells hb => by
    have e : (parts.map fun x => (x.1, a.eval x.2)).toList = parts.toList.map fun x => (x.1, a.eval x.2) := by simp
    have hr := run_build (P := P) w t (parts.map fun x => (x.1, a.eval x.2)) cells (by rw [e]; exact hb)
    simp only [execOp, ho, Sem.run_bind]
    have e2 : (parts.map fun (i, x) => (i, a.eval x)) = parts.map fun x => (x.1, a.eval x.2) := rfl
    rw [e2, hr]
    rfl
  rcases hk with ⟨fields, places, hu, hpl, hst⟩ | ⟨n, e, ie, hu, hie, har⟩
  · obtain ⟨a1, a2⟩ := structParts_out hst
    obtain ⟨cs', h, hl⟩ := fill_sound (places.toArray[·]?) _ _ _ h
    obtain ⟨v, hv, hk⟩ := mkAggK_out h
    refine .quiet _ hk fun μ w a hinv hp => ?_
    obtain ⟨b1, b2, b3⟩ := absPs_sound hzs (blocks μ) w
    obtain ⟨cells, c1, c2, c3⟩ := hl ⟨blocks μ, ba.length, μ⟩ w z.cells (parts.toList.map fun x => (x.1, a.eval x.2)) ⟨by simpa using b1, fun j x c hx hc => by
        rw [List.getElem?_map] at hc
        obtain ⟨p, hp, rfl⟩ := Option.map_eq_some_iff.1 hc
        exact .p _ _ (b2 j x p (by simpa using hx) hp)⟩ (fun j x hx => b3 j x (by simpa using hx)) (by simpa using a1) (fun j i' v o' n' a' e1 e2 => by
        rw [List.getElem?_map] at e1 e2
        obtain ⟨⟨i1, x1⟩, f1, f2⟩ := Option.map_eq_some_iff.1 e1
        obtain ⟨⟨o1, n1, r1⟩, g1, g2⟩ := Option.map_eq_some_iff.1 e2
        cases f2; cases g2
        obtain ⟨k1, k2⟩ := a2 j _ _ _ _ _ f1 g1
        exact ⟨by simpa using k1, hp x1 r1 (mem f1) k2⟩)
    refine ⟨.agg cells, run a w cells ?_, VA.of_agg c2 c3 hv⟩
    unfold Program.built
    simp only [hi, hu, hz]
    have : fields.toList.mapM (fun f => (P.info? f.type).map fun i => (f.offset, i.size)) = some places := hpl
    simp only [this]
    exact c1
  · obtain ⟨a1, a2⟩ := arrayParts_out har
    obtain ⟨cs', h, hl⟩ := fill_sound (fun i => some (i * ie.size, ie.size)) _ _ _ h
    obtain ⟨v, hv, hk⟩ := mkAggK_out h
    refine .quiet _ hk fun μ w a hinv hp => ?_
    obtain ⟨b1, b2, b3⟩ := absPs_sound hzs (blocks μ) w
    obtain ⟨cells, c1, c2, c3⟩ := hl ⟨blocks μ, ba.length, μ⟩ w z.cells (parts.toList.map fun x => (x.1, a.eval x.2)) ⟨by simpa using b1, fun j x c hx hc => by
        rw [List.getElem?_map] at hc
        obtain ⟨p, hp, rfl⟩ := Option.map_eq_some_iff.1 hc
        exact .p _ _ (b2 j x p (by simpa using hx) hp)⟩ (fun j x hx => b3 j x (by simpa using hx)) (by simpa using a1) (fun j i' v o' n' a' e1 e2 => by
        rw [List.getElem?_map] at e1 e2
        obtain ⟨⟨i1, x1⟩, f1, f2⟩ := Option.map_eq_some_iff.1 e1
        obtain ⟨⟨o1, n1, r1⟩, g1, g2⟩ := Option.map_eq_some_iff.1 e2
        cases f2; cases g2
        obtain ⟨rfl, rfl, k2⟩ := a2 j _ _ _ _ _ f1 g1
        exact ⟨rfl, hp x1 r1 (mem f1) k2⟩)
    refine ⟨.agg cells, run a w cells ?_, VA.of_agg c2 c3 hv⟩
    unfold Program.built
    simp only [hi, hu, hz, hie]
    exact c1

theorem RowOf.set {M : Nat → Prop} {w : World} {sz : Nat} {f g : Nat → Option Value} {es : List PV} (h : RowOf M w sz f es) {i : Nat} {e : PV} {v : Value} (hv : VP M w v e) (hs : v.cells.size = sz) (h1 : ∀ (j : Nat) (x : Value), v.cells[j]? = some x → x.oneCell' = true)
    (hg : ∀ k, g k = if i * sz ≤ k ∧ k < i * sz + sz then v.cells[k - i * sz]? else f k) : RowOf M w sz g (es.set i e) := by
  obtain ⟨c, a1, a2, a3⟩ := h
  have key : ∀ (j : Nat) (e' : PV), (es.set i e)[j]? = some e' → (j = i ∧ e' = e) ∨ (j ≠ i ∧ es[j]? = some e') := fun j e' hj => by
    rw [List.getElem?_set] at hj
    by_cases hij : i = j
    · rw [if_pos hij] at hj
      split at hj
      · exact .inl ⟨hij.symm, (Option.some.inj hj).symm⟩
      · cases hj
    · rw [if_neg hij] at hj
      exact .inr ⟨fun h => hij h.symm, hj⟩
  refine ⟨fun j => if j = i then v else c j, fun j e' hj => ?_, fun j e' hj k x hx => ?_, fun j e' hj => ?_⟩
  · rcases key j e' hj with ⟨rfl, rfl⟩ | ⟨hne, hj⟩
    · simp only [if_true]; exact hs
    · simp only [if_neg hne]; exact a1 j e' hj
  · rcases key j e' hj with ⟨rfl, rfl⟩ | ⟨hne, hj⟩
    · simp only [if_true] at hx
      have := aget_lt hx
      refine ⟨h1 k x hx, ?_⟩
      rw [hg, if_pos (by omega), show j * sz + k - j * sz = k by omega]
      exact hx
    · simp only [if_neg hne] at hx
      have hk := aget_lt hx
      rw [a1 j e' hj] at hk
      have := a2 j e' hj k x hx
      refine ⟨this.1, ?_⟩
      rw [hg, if_neg ?_]
      · exact this.2
      · rintro ⟨g1, g2⟩
        rcases Nat.lt_or_gt_of_ne hne with hl | hl
        · have := Nat.mul_le_mul_right sz (show j + 1 ≤ i from hl)
          rw [Nat.add_mul, Nat.one_mul] at this
          omega
        · have := Nat.mul_le_mul_right sz (show i + 1 ≤ j from hl)
          rw [Nat.add_mul, Nat.one_mul] at this
          omega
  · rcases key j e' hj with ⟨rfl, rfl⟩ | ⟨hne, hj⟩
    · simp only [if_true]; exact hv
    · simp only [if_neg hne]; exact a3 j e' hj

theorem CellsP.oneCells {M : Nat → Prop} {w : World} {v : Value} {e : PV} {cs : List PV} (h : CellsP e cs) (hv : VP M w v e) (j : Nat) (x : Value) (hx : v.cells[j]? = some x) : x.oneCell' = true := by
  cases h with
  | agg cs => cases hv with | agg xs cs h1 h2 h3 => exact h3 j x hx
  | one e hs =>
    rw [cells_of_oneCell (hv.oneCell hs)] at hx
    cases j with
    | zero => simp at hx; subst hx; exact hv.oneCell hs
    | succ j => simp at hx

theorem lit_sound (sz : Nat) : ∀ (ps : List (Nat × Rv)) (es : List PV) (k : List PV → Prop), litK sz ps fr es k → ∃ es', k es' ∧ es'.length = es.length ∧ ∀ (Γ : Ctx) (w : World) (arr : Array Value) (vs : List (Nat × Value)),
    arr.size = es.length * sz → RowOf Γ.M w sz (fun k => arr[k]?) es → vs.length = ps.length → (∀ (j i : Nat) (v : Value) (i' : Nat) (r : Rv), vs[j]? = some (i, v) → ps[j]? = some (i', r) → i = i' ∧ VA Γ w v (evF r fr)) →
    ∃ arr', Instr.fill (fun i => some (i * sz, sz)) arr vs = some arr' ∧ arr'.size = arr.size ∧ RowOf Γ.M w sz (fun k => arr'[k]?) es'
  | [], es, k, h => ⟨es, h, rfl, fun Γ w arr vs h1 h2 h3 h4 => by
      have : vs = [] := List.length_eq_zero_iff.1 h3
      subst this
      exact ⟨arr, rfl, rfl, h2⟩⟩
  | (i, x) :: ps, es, k, h => by
    simp only [litK, evK_eq] at h
    split at h
    · rename_i e he
      obtain ⟨cs, hcs, h⟩ := cellsPK_out h
      cases hb : Nat.beq cs.length sz with
      | false => rw [hb] at h; exact h.elim
      | true =>
        rw [hb] at h
        have hn : cs.length = sz := Nat.eq_of_beq_eq_true hb
        simp only [cond_true] at h
        obtain ⟨hil, h⟩ := setAtK_out _ _ _ _ h
        obtain ⟨es', hk, hl, hs⟩ := lit_sound sz ps _ k h
        refine ⟨es', hk, by rw [hl, List.length_set], fun Γ w arr vs g1 g2 g3 g4 => ?_⟩
        match vs, g3 with
        | (i', v) :: rest, g3 =>
          obtain ⟨rfl, p2⟩ := g4 0 i' v i x rfl rfl
          rw [he] at p2
          have hv := p2.pv
          obtain ⟨q1, q2⟩ := hcs.cells hv
          have hsz : v.cells.size = sz := by rw [q1, hn]
          have hle : i' * sz + sz ≤ arr.size := by
            rw [g1]
            have := Nat.mul_le_mul_right sz (show i' + 1 ≤ es.length from hil)
            rw [Nat.add_mul, Nat.one_mul] at this
            exact this
          obtain ⟨arr', f1, f2, f3⟩ := fill_one (fun i => some (i * sz, sz)) arr i' (i' * sz) sz v rest rfl hsz hle
          obtain ⟨arr2, r1, r2, r3⟩ := hs Γ w arr' rest (by rw [f2, g1, List.length_set]) (g2.set hv hsz (fun j x hx => hcs.oneCells hv j x hx) f3) (by simpa using g3) (fun j a b c d' e1 e2 => g4 (j + 1) a b c d' (by simpa using e1) (by simpa using e2))
          exact ⟨arr2, by rw [f1]; exact r1, by rw [r2, f2], r3⟩
    · exact h.elim

theorem sliceParts_out : ∀ {l : List (Nat × Operand)} {ps : List (Nat × Rv)}, sliceParts l = some ps → l.length = ps.length ∧ ∀ (j i : Nat) (x : Operand) (i' : Nat) (r : Rv), l[j]? = some (i, x) → ps[j]? = some (i', r) → i = i' ∧ rv x = some r
  | [], ps, h => by cases h; exact ⟨rfl, fun j i x o n h => by simp at h⟩
  | (i, x) :: l, ps, h => by
    simp only [sliceParts] at h
    split at h
    · rename_i v ps' h1 h2
      cases h
      obtain ⟨a1, a2⟩ := sliceParts_out h2
      refine ⟨by simp [a1], fun j i' x' o' r e1 e2 => ?_⟩
      cases j with
      | zero => simp at e1 e2; obtain ⟨rfl, rfl⟩ := e1; obtain ⟨rfl, rfl⟩ := e2; exact ⟨rfl, h1⟩
      | succ j => exact a2 j i' x' o' r (by simpa using e1) (by simpa using e2)
    · cases h

theorem absZ_one {v : Value} {e : PV} (h : absZ v = some e) (j : Nat) (x : Value) (hx : v.cells[j]? = some x) : x.oneCell' = true := by
  unfold absZ at h
  split at h
  · rename_i cs
    obtain ⟨es, h1, rfl⟩ := Option.map_eq_some_iff.1 h
    exact (absPs_sound h1 (fun _ => False) default).2.2 j x (by simpa [Value.cells] using hx)
  · have h1 := (absP_sound h (fun _ => False) default).2
    rw [cells_of_oneCell h1] at hx
    cases j with
    | zero => simp at hx; subst hx; exact h1
    | succ j => simp at hx

theorem s_lit {own : Bool} {t e : TypeId} {len : Nat} {parts : Array (Nat × Operand)} {i : TypeInfo} {z : Value} {z' : PV} {ps : List (Nat × Rv)} (ho : o.op = .buildSlice t len parts) (hu : P.underlying t = some (.slice e)) (hi : P.info? e = some i) (hz : i.zero = some z)
    (hz' : absZ z = some z') (hps : sliceParts parts.toList = some ps) (hsm : len * i.size ≤ 16777216) (hpos : len * i.size ≠ 0) (hzs : z.cells.size = i.size) (h : opV P d (.lit own i.size z' len ps) fr ba lo K) : Sound1 P o fr ba lo K := by
  simp only [opV, repK_eq] at h
  have mem : ∀ {j i' : Nat} {x : Operand}, parts.toList[j]? = some (i', x) → x ∈ o.op.operands.toList := fun {j i' x} hj => by
    rw [ho]
    simp only [Op.operands]
    exact List.mem_map.2 ⟨(i', x), List.mem_of_getElem? hj, rfl⟩
  obtain ⟨a1, a2⟩ := sliceParts_out hps
  obtain ⟨es', h, hl, hs⟩ := lit_sound i.size _ _ _ h
  rw [List.length_replicate] at hl
  have hrow0 : ∀ (M : Nat → Prop) (w : World), RowOf M w i.size (fun k => ((Array.range (len * i.size)).map (z.cells[· % z.cells.size]!))[k]?) (List.replicate len z') := fun M w => by
    refine ⟨fun _ => z, fun j e' he' => hzs, fun j e' he' k x hx => ⟨absZ_one hz' k x hx, ?_⟩, fun j e' he' => ?_⟩
    · have hj : j < len := by have := get_lt he'; simpa using this
      have hk : k < i.size := by rw [← hzs]; exact aget_lt hx
      have hlt := idx_lt hj hk
      have e1 : (j * i.size + k) % z.cells.size = k := by rw [hzs, Nat.mul_comm, Nat.mul_add_mod, Nat.mod_eq_of_lt hk]
      simp [hlt, e1]
      have := (Array.getElem?_eq_some_iff.1 hx)
      obtain ⟨q1, q2⟩ := this
      rw [getElem!_pos z.cells k q1]; exact q2
    · rw [List.getElem?_replicate] at he'
      split at he'
      · cases he'; exact absZ_sound hz' M w
      · cases he'
  have main : ∀ (μ : List MI) (w : World) (a : Act), Opnds o a μ w ba fr → ∃ arr : Array Value, (execOp a.eval o).run P w = .ok (.value (.slice (some ⟨w.heap.size, 0, none⟩) len len)) (w.alloc (.cells arr e)) ∧ arr.size = len * i.size ∧ RowOf (blocks μ) w i.size (fun k => arr[k]?) es' := fun μ w a hp => by
    obtain ⟨arr, r1, r2, r3⟩ := hs ⟨blocks μ, ba.length, μ⟩ w _ (parts.toList.map fun x => (x.1, a.eval x.2)) (by simp) (hrow0 _ w) (by simpa using a1) (fun j i1 v i2 r e1 e2 => by
      rw [List.getElem?_map] at e1
      obtain ⟨⟨i3, x3⟩, f1, f2⟩ := Option.map_eq_some_iff.1 e1
      cases f2
      obtain ⟨k1, k2⟩ := a2 j _ _ _ _ f1 e2
      exact ⟨k1, hp x3 r (mem f1) k2⟩)
    refine ⟨arr, ?_, by rw [r2]; simp, r3⟩
    have e0 : (parts.map fun x => (x.1, a.eval x.2)).toList = parts.toList.map fun x => (x.1, a.eval x.2) := by simp
    have hr := run_buildSlice (P := P) w t e len (parts.map fun x => (x.1, a.eval x.2)) arr i z hu hi hz (by omega) hpos (by rw [e0]; exact r1)
    simp only [execOp, ho, Sem.run_bind]
    have e2 : (parts.map fun (i, x) => (i, a.eval x)) = parts.map fun x => (x.1, a.eval x.2) := rfl
    rw [e2, hr]
    rfl
  cases own with
  | false =>
    refine ⟨_, ba, lo, h, fun μ w a hinv hp => ?_⟩
    obtain ⟨arr, r1, r2, r3⟩ := main μ w a hp
    have hle := le_alloc μ hinv (.cells arr e)
    refine ⟨_, _, μ, .inl r1, .p _ _ ?_, hinv.grow hle fun b hb => heap_alloc_old w _ b hb, hle, rfl⟩
    rw [← hl]
    exact VP.of_row (row_at (heap_alloc_new w (.cells arr e)) (r3.mono hle.stays)) (fun hb => Nat.lt_irrefl _ (hinv.block_lt hb)) (by simp) (by omega)
  | true =>
    simp only [pushK_eq] at h
    refine ⟨_, ba, _, h, fun μ w a hinv hp => ?_⟩
    obtain ⟨arr, r1, r2, r3⟩ := main μ w a hp
    obtain ⟨h3, h4, h5⟩ := hinv.push (w' := w.alloc (.cells arr e)) (.buf (some w.heap.size) 0 arr.size) (.buf 0 i.size es') (fun b hb => by cases hb; exact Nat.le_refl _) rfl rfl rfl (by simp) (fun b hb => heap_alloc_old w (.cells arr e) b hb) fun hle =>
      ObOk.of_row (heap_alloc_new w (.cells arr e)) (by rw [r2, hl]; exact Nat.le_refl _) (r3.mono hle.stays)
    refine ⟨_, _, _, .inl r1, ?_, h3, h4, rfl⟩
    rw [hl]
    exact .view _ 0 i.size arr.size w.heap.size len len h5 (Nat.le_refl _) r2.symm

end ops
end Go.Proofs.Ytkjidklifmcpnaa.AD
