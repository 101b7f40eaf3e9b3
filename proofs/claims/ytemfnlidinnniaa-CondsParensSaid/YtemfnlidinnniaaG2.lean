/- A plainer machine, eleven: new objects, values put together, stores. -/
import Derived.Test.YtemfnlidinnniaaG1
import Derived.MapKept
import Derived.WideMake
import Derived.Laws.StructEq
import Derived.Laws.MakeOwn
namespace Go.Proofs.Ytemfnlidinnniaa.AD
set_option linter.unusedVariables false

section ops
variable {P : Program} {o : Oper} {fr : FR} {ba lo : List Ob} {K : AV → List Ob → List Ob → Prop} {d : Bool}

/-- A new block of cells as an object of the call's own. -/
theorem Inv.push_cells {μ : List MI} {w : World} (h : Inv μ w ba lo) (xs : Array Value) (t : TypeId) (cs : List AV) (hc : CellsV ⟨blocks μ, ba.length, μ⟩ w xs cs) (h1 : ∀ (j : Nat) (x : Value), xs[j]? = some x → x.oneCell' = true) :
    Inv (μ ++ [.cells w.heap.size]) (w.alloc (.cells xs t)) ba (lo ++ [.cells cs]) ∧ Le μ w (μ ++ [.cells w.heap.size]) (w.alloc (.cells xs t)) ∧
      Ctx.at ⟨blocks (μ ++ [.cells w.heap.size]), ba.length, μ ++ [.cells w.heap.size]⟩ (.l lo.length) = some (.cells w.heap.size) := by
  refine h.push (.cells w.heap.size) (.cells cs) (fun b hb => by cases hb; exact Nat.le_refl _) rfl rfl rfl (by simp) (fun b hb => heap_alloc_old w _ b hb) fun hle => ?_
  exact .cells _ xs t cs (heap_alloc_new w _) hc.1 fun j x c hx hcj => ⟨(hc.2 j x c hx hcj).mono hle.stays hle.above, h1 j x hx⟩

theorem s_box {t : TypeId} {x : Operand} {rx : Rv} (ho : o.op = .box t x) (hx : rv x = some rx) (h : opV P d (.box rx) fr ba lo K) : Sound1 P o fr ba lo K := by
  have hm : x ∈ o.op.operands.toList := by simp [ho, Op.operands]
  simp only [opV, evK_eq] at h
  obtain ⟨cs, h1, h2, h⟩ := cellsK_out h
  rw [pushK_eq] at h
  refine ⟨_, _, _, h, fun μ w a hi hp => ?_⟩
  have hv := (hp.get hm hx rfl).cells h1
  obtain ⟨h3, h4, h5⟩ := hi.push_cells (a.eval x).cells t cs hv fun j x hx => hv.one h2 j x hx
  exact ⟨.pointer (some ⟨w.heap.size, 0, none⟩), _, _, .inl (by simp [execOp, ho, Instr.box, newVar, newRow]), .ref _ _ _ h5, h3, h4, rfl⟩

theorem s_alloc {t : TypeId} {i : TypeInfo} {z : Value} {cs : List PV} (ho : o.op = .alloc t) (hi : P.info? t = some i) (hz : i.zero = some z) (hc : absPs z.cells.toList = some cs) (h : opV P d (.alloc cs) fr ba lo K) : Sound1 P o fr ba lo K := by
  simp only [opV, upPK_eq, pushK_eq] at h
  refine ⟨_, _, _, h, fun μ w a hi' hp => ?_⟩
  obtain ⟨a1, a2, a3⟩ := absPs_sound hc (blocks μ) w
  obtain ⟨h3, h4, h5⟩ := hi'.push_cells z.cells t (cs.map AV.p) ⟨by simpa using a1, fun j x c hx hc => by
    rw [List.getElem?_map] at hc
    obtain ⟨p, hp, rfl⟩ := Option.map_eq_some_iff.1 hc
    exact .p _ _ (a2 j x p (by simpa using hx) hp)⟩ fun j x hx => a3 j x (by simpa using hx)
  exact ⟨.pointer (some ⟨w.heap.size, 0, none⟩), _, _, .inl (by simp [execOp, ho, Instr.alloc, newVar, newRow, zeroValue, typeInfo, hi, hz]), .ref _ _ _ h5, h3, h4, rfl⟩

/-! #### parts -/

theorem fill_one (place : Nat → Option (Nat × Nat)) (cells : Array Value) (i off n : Nat) (v : Value) (rest : List (Nat × Value)) (hp : place i = some (off, n)) (hv : v.cells.size = n) (hn : off + n ≤ cells.size) :
    ∃ arr : Array Value, Instr.fill place cells ((i, v) :: rest) = Instr.fill place arr rest ∧ arr.size = cells.size ∧ ∀ k, arr[k]? = if off ≤ k ∧ k < off + n then v.cells[k - off]? else cells[k]? := by
  obtain ⟨g1, g2⟩ := Great.foldl_set off v.cells.toList 0 cells
  refine ⟨(v.cells.toList.zipIdx 0).foldl (fun cs (x : Value × Nat) => cs.setIfInBounds (off + x.2) x.1) cells, ?_, g1, fun k => ?_⟩
  · conv => lhs; unfold Instr.fill
    simp only [hp, hv]
    rw [if_neg (by simp; omega)]
    rw [← Array.foldl_toList, Array.toList_zipIdx]
  · rw [g2 k]
    simp only [Nat.add_zero, Array.length_toList, hv]
    by_cases hk : off ≤ k ∧ k < off + n
    · rw [if_pos ⟨hk.1, hk.2, by omega⟩, if_pos hk]; simp
    · rw [if_neg (fun h => hk ⟨h.1, h.2.1⟩), if_neg hk]

theorem splice_get {α : Type} {off : Nat} {vs l : List α} (h : off + vs.length ≤ l.length) (k : Nat) : (l.take off ++ vs ++ l.drop (off + vs.length))[k]? = if off ≤ k ∧ k < off + vs.length then vs[k - off]? else l[k]? := by
  have h1 : (l.take off).length = off := by rw [List.length_take]; omega
  by_cases hk : k < off
  · rw [if_neg (by omega), List.append_assoc, List.getElem?_append_left (by omega), List.getElem?_take, if_pos hk]
  · by_cases hk2 : k < off + vs.length
    · rw [if_pos ⟨by omega, hk2⟩, List.append_assoc, List.getElem?_append_right (by omega), h1, List.getElem?_append_left (by omega)]
    · rw [if_neg (by omega), List.getElem?_append_right (by rw [List.length_append]; omega), List.length_append, h1, List.getElem?_drop]
      congr 1
      omega
theorem splice_len {α : Type} {off : Nat} {vs l : List α} (h : off + vs.length ≤ l.length) : (l.take off ++ vs ++ l.drop (off + vs.length)).length = l.length := by
  simp; omega

theorem partsK_eq : ∀ (l : List (Nat × Nat × Rv)) (fr : FR) (k : List (Nat × Nat × AV) → Prop), partsK l fr k = k (l.map fun x => (x.1, x.2.1, evF x.2.2 fr))
  | [], fr, k => rfl
  | (o, n, x) :: r, fr, k => by simp only [partsK, evK_eq, partsK_eq r, List.map_cons]

theorem fill_sound (place : Nat → Option (Nat × Nat)) : ∀ (ps : List (Nat × Nat × AV)) (cs : List AV) (k : List AV → Prop), fillK ps cs k → ∃ cs', k cs' ∧ ∀ (Γ : Ctx) (w : World) (cells : Array Value) (vs : List (Nat × Value)),
    CellsV Γ w cells cs → (∀ (j : Nat) (x : Value), cells[j]? = some x → x.oneCell' = true) → vs.length = ps.length →
    (∀ (j : Nat) (i : Nat) (v : Value) (o n : Nat) (a : AV), vs[j]? = some (i, v) → ps[j]? = some (o, n, a) → place i = some (o, n) ∧ VA Γ w v a) →
    ∃ cells', Instr.fill place cells vs = some cells' ∧ CellsV Γ w cells' cs' ∧ ∀ (j : Nat) (x : Value), cells'[j]? = some x → x.oneCell' = true
  | [], cs, k, h => ⟨cs, h, fun Γ w cells vs h1 h2 h3 h4 => by
      have : vs = [] := List.length_eq_zero_iff.1 h3
      subst this
      exact ⟨cells, rfl, h1, h2⟩⟩
  | (off, n, a) :: ps, cs, k, h => by
    simp only [fillK] at h
    obtain ⟨news, h1, h2, h⟩ := cellsK_out h
    cases hb : Nat.beq news.length n with
    | false => rw [hb] at h; exact h.elim
    | true =>
      rw [hb] at h
      have hn : news.length = n := Nat.eq_of_beq_eq_true hb
      simp only [cond_true] at h
      obtain ⟨h3, h⟩ := spliceK_out _ _ _ _ h
      obtain ⟨cs', hk, hl⟩ := fill_sound place ps _ k h
      refine ⟨cs', hk, fun Γ w cells vs g1 g2 g3 g4 => ?_⟩
      match vs, g3 with
      | (i, v) :: rest, g3 =>
        obtain ⟨p1, p2⟩ := g4 0 i v off n a rfl rfl
        have hv := p2.cells h1
        have hsz : v.cells.size = n := by rw [hv.1, hn]
        obtain ⟨arr, f1, f2, f3⟩ := fill_one place cells i off n v rest p1 hsz (by rw [g1.1, ← hn]; exact h3)
        have key : ∀ (j : Nat) (x : Value), arr[j]? = some x → (off ≤ j ∧ j < off + n ∧ v.cells[j - off]? = some x) ∨ (¬ (off ≤ j ∧ j < off + n) ∧ cells[j]? = some x) := fun j x hx => by
          rw [f3 j] at hx
          by_cases hj : off ≤ j ∧ j < off + n
          · rw [if_pos hj] at hx; exact .inl ⟨hj.1, hj.2, hx⟩
          · rw [if_neg hj] at hx; exact .inr ⟨hj, hx⟩
        obtain ⟨cells', q1, q2, q3⟩ := hl Γ w arr rest ⟨by rw [f2, g1.1, splice_len h3], fun j x c hx hc => by
            rw [splice_get h3, hn] at hc
            rcases key j x hx with ⟨k1, k2, k3⟩ | ⟨k1, k2⟩
            · rw [if_pos ⟨k1, k2⟩] at hc; exact hv.2 _ _ _ k3 hc
            · rw [if_neg k1] at hc; exact g1.2 _ _ _ k2 hc⟩ (fun j x hx => by
            rcases key j x hx with ⟨k1, k2, k3⟩ | ⟨k1, k2⟩
            · exact hv.one h2 _ _ k3
            · exact g2 _ _ k2) (by simpa using g3) (fun j i' v' o' n' a' e1 e2 => g4 (j + 1) i' v' o' n' a' (by simpa using e1) (by simpa using e2))
        exact ⟨cells', by rw [f1]; exact q1, q2, q3⟩

theorem structParts_out {places : List (Nat × Nat)} : ∀ {l : List (Nat × Operand)} {ps : List (Nat × Nat × Rv)}, structParts places l = some ps → l.length = ps.length ∧ ∀ (j i : Nat) (x : Operand) (o n : Nat) (r : Rv), l[j]? = some (i, x) → ps[j]? = some (o, n, r) → places[i]? = some (o, n) ∧ rv x = some r
  | [], ps, h => by cases h; exact ⟨rfl, fun j i x o n r h => by simp at h⟩
  | (i, x) :: l, ps, h => by
    simp only [structParts] at h
    split at h
    · rename_i o n v ps' h1 h2 h3
      cases h
      obtain ⟨a1, a2⟩ := structParts_out h3
      refine ⟨by simp [a1], fun j i' x' o' n' r e1 e2 => ?_⟩
      cases j with
      | zero => simp at e1 e2; obtain ⟨rfl, rfl⟩ := e1; obtain ⟨rfl, rfl, rfl⟩ := e2; exact ⟨h1, h2⟩
      | succ j => exact a2 j i' x' o' n' r (by simpa using e1) (by simpa using e2)
    · cases h
theorem arrayParts_out {size : Nat} : ∀ {l : List (Nat × Operand)} {ps : List (Nat × Nat × Rv)}, arrayParts size l = some ps → l.length = ps.length ∧ ∀ (j i : Nat) (x : Operand) (o n : Nat) (r : Rv), l[j]? = some (i, x) → ps[j]? = some (o, n, r) → o = i * size ∧ n = size ∧ rv x = some r
  | [], ps, h => by cases h; exact ⟨rfl, fun j i x o n r h => by simp at h⟩
  | (i, x) :: l, ps, h => by
    simp only [arrayParts] at h
    split at h
    · rename_i v ps' h1 h2
      cases h
      obtain ⟨a1, a2⟩ := arrayParts_out h2
      refine ⟨by simp [a1], fun j i' x' o' n' r e1 e2 => ?_⟩
      cases j with
      | zero => simp at e1 e2; obtain ⟨rfl, rfl⟩ := e1; obtain ⟨rfl, rfl, rfl⟩ := e2; exact ⟨rfl, rfl, h1⟩
      | succ j => exact a2 j i' x' o' n' r (by simpa using e1) (by simpa using e2)
    · cases h

theorem s_build {t : TypeId} {parts : Array (Nat × Operand)} {zs : List PV} {ps : List (Nat × Nat × Rv)} {i : TypeInfo} {z : Value} (ho : o.op = .build t parts) (hi : P.info? t = some i) (hz : i.zero = some z) (hzs : absPs z.cells.toList = some zs)
    (hk : (∃ fields places, P.underlying t = some (.struct fields) ∧ placesOf P fields = some places ∧ structParts places parts.toList = some ps) ∨ (∃ n e ie, P.underlying t = some (.array n e) ∧ P.info? e = some ie ∧ arrayParts ie.size parts.toList = some ps))
    (h : opV P d (.build zs ps) fr ba lo K) : Sound1 P o fr ba lo K := by
  simp only [opV, partsK_eq, upPK_eq] at h
  have mem : ∀ {j i' : Nat} {x : Operand}, parts.toList[j]? = some (i', x) → x ∈ o.op.operands.toList := fun {j i' x} hj => by
    rw [ho]
    simp only [Op.operands]
    exact List.mem_map.2 ⟨(i', x), List.mem_of_getElem? hj, rfl⟩
  have run : ∀ (a : Act) (w : World) (cells : Array Value), P.built t (parts.toList.map fun x => (x.1, a.eval x.2)) = some cells → (execOp a.eval o).run P w = .ok (.value (.agg cells)) w := fun a w cells hb => by
    have e : (parts.map fun x => (x.1, a.eval x.2)).toList = parts.toList.map fun x => (x.1, a.eval x.2) := by simp
    have hr := run_build (P := P) w t (parts.map fun x => (x.1, a.eval x.2)) cells (by rw [e]; exact hb)
    simp only [execOp, ho, Sem.run_bind]
    have e2 : (parts.map fun (i, x) => (i, a.eval x)) = parts.map fun x => (x.1, a.eval x.2) := rfl
    rw [e2, hr]
    rfl
  rcases hk with ⟨fields, places, hu, hpl, hst⟩ | ⟨n, e, ie, hu, hie, har⟩
  · obtain ⟨a1, a2⟩ := structParts_out hst
    obtain ⟨cs', h, hl⟩ := fill_sound (places.toArray[·]?) _ _ _ h
    obtain ⟨v, hv, hk⟩ := mkAggK_out h
    refine .quiet _ hk fun μ w a hinv hp => ?_
    obtain ⟨b1, b2, b3⟩ := absPs_sound hzs (blocks μ) w
    obtain ⟨cells, c1, c2, c3⟩ := hl ⟨blocks μ, ba.length, μ⟩ w z.cells (parts.toList.map fun x => (x.1, a.eval x.2)) ⟨by simpa using b1, fun j x c hx hc => by
        rw [List.getElem?_map] at hc
        obtain ⟨p, hp, rfl⟩ := Option.map_eq_some_iff.1 hc
        exact .p _ _ (b2 j x p (by simpa using hx) hp)⟩ (fun j x hx => b3 j x (by simpa using hx)) (by simpa using a1) (fun j i' v o' n' a' e1 e2 => by
        rw [List.getElem?_map] at e1 e2
        obtain ⟨⟨i1, x1⟩, f1, f2⟩ := Option.map_eq_some_iff.1 e1
        obtain ⟨⟨o1, n1, r1⟩, g1, g2⟩ := Option.map_eq_some_iff.1 e2
        cases f2; cases g2
        obtain ⟨k1, k2⟩ := a2 j _ _ _ _ _ f1 g1
        exact ⟨by simpa using k1, hp x1 r1 (mem f1) k2⟩)
    refine ⟨.agg cells, run a w cells ?_, VA.of_agg c2 c3 hv⟩
    unfold Program.built
    simp only [hi, hu, hz]
    have : fields.toList.mapM (fun f => (P.info? f.type).map fun i => (f.offset, i.size)) = some places := hpl
    simp only [this]
    exact c1
  · obtain ⟨a1, a2⟩ := arrayParts_out har
    obtain ⟨cs', h, hl⟩ := fill_sound (fun i => some (i * ie.size, ie.size)) _ _ _ h
    obtain ⟨v, hv, hk⟩ := mkAggK_out h
    refine .quiet _ hk fun μ w a hinv hp => ?_
    obtain ⟨b1, b2, b3⟩ := absPs_sound hzs (blocks μ) w
    obtain ⟨cells, c1, c2, c3⟩ := hl ⟨blocks μ, ba.length, μ⟩ w z.cells (parts.toList.map fun x => (x.1, a.eval x.2)) ⟨by simpa using b1, fun j x c hx hc => by
        rw [List.getElem?_map] at hc
        obtain ⟨p, hp, rfl⟩ := Option.map_eq_some_iff.1 hc
        exact .p _ _ (b2 j x p (by simpa using hx) hp)⟩ (fun j x hx => b3 j x (by simpa using hx)) (by simpa using a1) (fun j i' v o' n' a' e1 e2 => by
        rw [List.getElem?_map] at e1 e2
        obtain ⟨⟨i1, x1⟩, f1, f2⟩ := Option.map_eq_some_iff.1 e1
        obtain ⟨⟨o1, n1, r1⟩, g1, g2⟩ := Option.map_eq_some_iff.1 e2
        cases f2; cases g2
        obtain ⟨rfl, rfl, k2⟩ := a2 j _ _ _ _ _ f1 g1
        exact ⟨rfl, hp x1 r1 (mem f1) k2⟩)
    refine ⟨.agg cells, run a w cells ?_, VA.of_agg c2 c3 hv⟩
    unfold Program.built
    simp only [hi, hu, hz, hie]
    exact c1

theorem RowOf.set {M : Nat → Prop} {w : World} {sz : Nat} {f g : Nat → Option Value} {es : List PV} (h : RowOf M w sz f es) {i : Nat} {e : PV} {v : Value} (hv : VP M w v e) (hs : v.cells.size = sz) (h1 : ∀ (j : Nat) (x : Value), v.cells[j]? = some x → x.oneCell' = true)
    (hg : ∀ k, g k = if i * sz ≤ k ∧ k < i * sz + sz then v.cells[k - i * sz]? else f k) : RowOf M w sz g (es.set i e) := by
  obtain ⟨c, a1, a2, a3⟩ := h
  have key : ∀ (j : Nat) (e' : PV), (es.set i e)[j]? = some e' → (j = i ∧ e' = e) ∨ (j ≠ i ∧ es[j]? = some e') := fun j e' hj => by
    rw [List.getElem?_set] at hj
    by_cases hij : i = j
    · rw [if_pos hij] at hj
      split at hj
      · exact .inl ⟨hij.symm, (Option.some.inj hj).symm⟩
      · cases hj
    · rw [if_neg hij] at hj
      exact .inr ⟨fun h => hij h.symm, hj⟩
  refine ⟨fun j => if j = i then v else c j, fun j e' hj => ?_, fun j e' hj k x hx => ?_, fun j e' hj => ?_⟩
  · rcases key j e' hj with ⟨rfl, rfl⟩ | ⟨hne, hj⟩
    · simp only [if_true]; exact hs
    · simp only [if_neg hne]; exact a1 j e' hj
  · rcases key j e' hj with ⟨rfl, rfl⟩ | ⟨hne, hj⟩
    · simp only [if_true] at hx
      have := aget_lt hx
      refine ⟨h1 k x hx, ?_⟩
      rw [hg, if_pos (by omega), show j * sz + k - j * sz = k by omega]
      exact hx
    · simp only [if_neg hne] at hx
      have hk := aget_lt hx
      rw [a1 j e' hj] at hk
      have := a2 j e' hj k x hx
      refine ⟨this.1, ?_⟩
      rw [hg, if_neg ?_]
      · exact this.2
      · rintro ⟨g1, g2⟩
        rcases Nat.lt_or_gt_of_ne hne with hl | hl
        · have := Nat.mul_le_mul_right sz (show j + 1 ≤ i from hl)
          rw [Nat.add_mul, Nat.one_mul] at this
          omega
        · have := Nat.mul_le_mul_right sz (show i + 1 ≤ j from hl)
          rw [Nat.add_mul, Nat.one_mul] at this
          omega
  · rcases key j e' hj with ⟨rfl, rfl⟩ | ⟨hne, hj⟩
    · simp only [if_true]; exact hv
    · simp only [if_neg hne]; exact a3 j e' hj

theorem CellsP.oneCells {M : Nat → Prop} {w : World} {v : Value} {e : PV} {cs : List PV} (h : CellsP e cs) (hv : VP M w v e) (j : Nat) (x : Value) (hx : v.cells[j]? = some x) : x.oneCell' = true := by
  cases h with
  | agg cs => cases hv with | agg xs cs h1 h2 h3 => exact h3 j x hx
  | one e hs =>
    rw [cells_of_oneCell (hv.oneCell hs)] at hx
    cases j with
    | zero => simp at hx; subst hx; exact hv.oneCell hs
    | succ j => simp at hx

theorem lit_sound (sz : Nat) : ∀ (ps : List (Nat × Rv)) (es : List PV) (k : List PV → Prop), litK sz ps fr es k → ∃ es', k es' ∧ es'.length = es.length ∧ ∀ (Γ : Ctx) (w : World) (arr : Array Value) (vs : List (Nat × Value)),
    arr.size = es.length * sz → RowOf Γ.M w sz (fun k => arr[k]?) es → vs.length = ps.length → (∀ (j i : Nat) (v : Value) (i' : Nat) (r : Rv), vs[j]? = some (i, v) → ps[j]? = some (i', r) → i = i' ∧ VA Γ w v (evF r fr)) →
    ∃ arr', Instr.fill (fun i => some (i * sz, sz)) arr vs = some arr' ∧ arr'.size = arr.size ∧ RowOf Γ.M w sz (fun k => arr'[k]?) es'
  | [], es, k, h => ⟨es, h, rfl, fun Γ w arr vs h1 h2 h3 h4 => by
      have : vs = [] := List.length_eq_zero_iff.1 h3
      subst this
      exact ⟨arr, rfl, rfl, h2⟩⟩
  | (i, x) :: ps, es, k, h => by
    simp only [litK, evK_eq] at h
    split at h
    · rename_i e he
      obtain ⟨cs, hcs, h⟩ := cellsPK_out h
      cases hb : Nat.beq cs.length sz with
      | false => rw [hb] at h; exact h.elim
      | true =>
        rw [hb] at h
        have hn : cs.length = sz := Nat.eq_of_beq_eq_true hb
        simp only [cond_true] at h
        obtain ⟨hil, h⟩ := setAtK_out _ _ _ _ h
        obtain ⟨es', hk, hl, hs⟩ := lit_sound sz ps _ k h
        refine ⟨es', hk, by rw [hl, List.length_set], fun Γ w arr vs g1 g2 g3 g4 => ?_⟩
        match vs, g3 with
        | (i', v) :: rest, g3 =>
          obtain ⟨rfl, p2⟩ := g4 0 i' v i x rfl rfl
          rw [he] at p2
          have hv := p2.pv
          obtain ⟨q1, q2⟩ := hcs.cells hv
          have hsz : v.cells.size = sz := by rw [q1, hn]
          have hle : i' * sz + sz ≤ arr.size := by
            rw [g1]
            have := Nat.mul_le_mul_right sz (show i' + 1 ≤ es.length from hil)
            rw [Nat.add_mul, Nat.one_mul] at this
            exact this
          obtain ⟨arr', f1, f2, f3⟩ := fill_one (fun i => some (i * sz, sz)) arr i' (i' * sz) sz v rest rfl hsz hle
          obtain ⟨arr2, r1, r2, r3⟩ := hs Γ w arr' rest (by rw [f2, g1, List.length_set]) (g2.set hv hsz (fun j x hx => hcs.oneCells hv j x hx) f3) (by simpa using g3) (fun j a b c d' e1 e2 => g4 (j + 1) a b c d' (by simpa using e1) (by simpa using e2))
          exact ⟨arr2, by rw [f1]; exact r1, by rw [r2, f2], r3⟩
    · exact h.elim

theorem sliceParts_out : ∀ {l : List (Nat × Operand)} {ps : List (Nat × Rv)}, sliceParts l = some ps → l.length = ps.length ∧ ∀ (j i : Nat) (x : Operand) (i' : Nat) (r : Rv), l[j]? = some (i, x) → ps[j]? = some (i', r) → i = i' ∧ rv x = some r
  | [], ps, h => by cases h; exact ⟨rfl, fun j i x o n h => by simp at h⟩
  | (i, x) :: l, ps, h => by
    simp only [sliceParts] at h
    split at h
    · rename_i v ps' h1 h2
      cases h
      obtain ⟨a1, a2⟩ := sliceParts_out h2
      refine ⟨by simp [a1], fun j i' x' o' r e1 e2 => ?_⟩
      cases j with
      | zero => simp at e1 e2; obtain ⟨rfl, rfl⟩ := e1; obtain ⟨rfl, rfl⟩ := e2; exact ⟨rfl, h1⟩
      | succ j => exact a2 j i' x' o' r (by simpa using e1) (by simpa using e2)
    · cases h

theorem absZ_one {v : Value} {e : PV} (h : absZ v = some e) (j : Nat) (x : Value) (hx : v.cells[j]? = some x) : x.oneCell' = true := by
  unfold absZ at h
  split at h
  · rename_i cs
    obtain ⟨es, h1, rfl⟩ := Option.map_eq_some_iff.1 h
    exact (absPs_sound h1 (fun _ => False) default).2.2 j x (by simpa [Value.cells] using hx)
  · have h1 := (absP_sound h (fun _ => False) default).2
    rw [cells_of_oneCell h1] at hx
    cases j with
    | zero => simp at hx; subst hx; exact h1
    | succ j => simp at hx

theorem s_lit {own : Bool} {t e : TypeId} {len : Nat} {parts : Array (Nat × Operand)} {i : TypeInfo} {z : Value} {z' : PV} {ps : List (Nat × Rv)} (ho : o.op = .buildSlice t len parts) (hu : P.underlying t = some (.slice e)) (hi : P.info? e = some i) (hz : i.zero = some z)
    (hz' : absZ z = some z') (hps : sliceParts parts.toList = some ps) (hsm : len * i.size ≤ 16777216) (hpos : len * i.size ≠ 0) (hzs : z.cells.size = i.size) (h : opV P d (.lit own i.size z' len ps) fr ba lo K) : Sound1 P o fr ba lo K := by
  simp only [opV, repK_eq] at h
  have mem : ∀ {j i' : Nat} {x : Operand}, parts.toList[j]? = some (i', x) → x ∈ o.op.operands.toList := fun {j i' x} hj => by
    rw [ho]
    simp only [Op.operands]
    exact List.mem_map.2 ⟨(i', x), List.mem_of_getElem? hj, rfl⟩
  obtain ⟨a1, a2⟩ := sliceParts_out hps
  obtain ⟨es', h, hl, hs⟩ := lit_sound i.size _ _ _ h
  rw [List.length_replicate] at hl
  have hrow0 : ∀ (M : Nat → Prop) (w : World), RowOf M w i.size (fun k => ((Array.range (len * i.size)).map (z.cells[· % z.cells.size]!))[k]?) (List.replicate len z') := fun M w => by
    refine ⟨fun _ => z, fun j e' he' => hzs, fun j e' he' k x hx => ⟨absZ_one hz' k x hx, ?_⟩, fun j e' he' => ?_⟩
    · have hj : j < len := by have := get_lt he'; simpa using this
      have hk : k < i.size := by rw [← hzs]; exact aget_lt hx
      have hlt := idx_lt hj hk
      have e1 : (j * i.size + k) % z.cells.size = k := by rw [hzs, Nat.mul_comm, Nat.mul_add_mod, Nat.mod_eq_of_lt hk]
      simp [hlt, e1]
      have := (Array.getElem?_eq_some_iff.1 hx)
      obtain ⟨q1, q2⟩ := this
      rw [getElem!_pos z.cells k q1]; exact q2
    · rw [List.getElem?_replicate] at he'
      split at he'
      · cases he'; exact absZ_sound hz' M w
      · cases he'
  have main : ∀ (μ : List MI) (w : World) (a : Act), Opnds o a μ w ba fr → ∃ arr : Array Value, (execOp a.eval o).run P w = .ok (.value (.slice (some ⟨w.heap.size, 0, none⟩) len len)) (w.alloc (.cells arr e)) ∧ arr.size = len * i.size ∧ RowOf (blocks μ) w i.size (fun k => arr[k]?) es' := fun μ w a hp => by
    obtain ⟨arr, r1, r2, r3⟩ := hs ⟨blocks μ, ba.length, μ⟩ w _ (parts.toList.map fun x => (x.1, a.eval x.2)) (by simp) (hrow0 _ w) (by simpa using a1) (fun j i1 v i2 r e1 e2 => by
      rw [List.getElem?_map] at e1
      obtain ⟨⟨i3, x3⟩, f1, f2⟩ := Option.map_eq_some_iff.1 e1
      cases f2
      obtain ⟨k1, k2⟩ := a2 j _ _ _ _ f1 e2
      exact ⟨k1, hp x3 r (mem f1) k2⟩)
    refine ⟨arr, ?_, by rw [r2]; simp, r3⟩
    have e0 : (parts.map fun x => (x.1, a.eval x.2)).toList = parts.toList.map fun x => (x.1, a.eval x.2) := by simp
    have hr := run_buildSlice (P := P) w t e len (parts.map fun x => (x.1, a.eval x.2)) arr i z hu hi hz (by omega) hpos (by rw [e0]; exact r1)
    simp only [execOp, ho, Sem.run_bind]
    have e2 : (parts.map fun (i, x) => (i, a.eval x)) = parts.map fun x => (x.1, a.eval x.2) := rfl
    rw [e2, hr]
    rfl
  cases own with
  | false =>
    refine ⟨_, ba, lo, h, fun μ w a hinv hp => ?_⟩
    obtain ⟨arr, r1, r2, r3⟩ := main μ w a hp
    have hle := le_alloc μ hinv (.cells arr e)
    refine ⟨_, _, μ, .inl r1, .p _ _ ?_, hinv.grow hle fun b hb => heap_alloc_old w _ b hb, hle, rfl⟩
    rw [← hl]
    exact VP.of_row (row_at (heap_alloc_new w (.cells arr e)) (r3.mono hle.stays)) (fun hb => Nat.lt_irrefl _ (hinv.block_lt hb)) (by simp) (by omega)
  | true =>
    simp only [pushK_eq] at h
    refine ⟨_, ba, _, h, fun μ w a hinv hp => ?_⟩
    obtain ⟨arr, r1, r2, r3⟩ := main μ w a hp
    obtain ⟨h3, h4, h5⟩ := hinv.push (w' := w.alloc (.cells arr e)) (.buf (some w.heap.size) 0 arr.size) (.buf 0 i.size es') (fun b hb => by cases hb; exact Nat.le_refl _) rfl rfl rfl (by simp) (fun b hb => heap_alloc_old w (.cells arr e) b hb) fun hle =>
      ObOk.of_row (heap_alloc_new w (.cells arr e)) (by rw [r2, hl]; exact Nat.le_refl _) (r3.mono hle.stays)
    refine ⟨_, _, _, .inl r1, ?_, h3, h4, rfl⟩
    rw [hl]
    exact .view _ 0 i.size arr.size w.heap.size len len h5 (Nat.le_refl _) r2.symm

end ops
end Go.Proofs.Ytemfnlidinnniaa.AD

namespace Go.Proofs.Ytemfnlidinnniaa.AD
set_option linter.unusedVariables false
set_option linter.unusedSimpArgs false

section ops
variable {P : Program} {o : Oper} {fr : FR} {ba lo : List Ob} {K : AV → List Ob → List Ob → Prop} {d : Bool}

theorem run_storeVar {w : World} {t ty : TypeId} {b off n : Nat} {cur : Array Value} {v : Value} (hg : w.heap[b]? = some (.cells cur ty (0, 0))) (hn : sizeT P t = some n) (hv : v.cells.size = n) (hfit : off + n ≤ cur.size) (h1 : ∀ (j : Nat) (x : Value), v.cells[j]? = some x → x.oneCell' = true) :
    (storeVar t ⟨b, off, none⟩ v).run P w = .ok () (w.setRow b (cur.toList.take off ++ v.cells.toList ++ cur.toList.drop (off + v.cells.toList.length)).toArray) := by
  obtain ⟨i, hi, hsz⟩ := Option.map_eq_some_iff.1 hn
  have hs := run_storeCells_at P b off ty v.cells.toList 0 cur w hg (by rw [Nat.add_zero, Array.length_toList, hv]; exact hfit) (fun x hx => by
    obtain ⟨j, hj⟩ := List.mem_iff_getElem?.1 hx
    exact h1 j x (by simpa using hj))
  simp only [Nat.add_zero] at hs
  have e : ¬ (v.cells.size ≠ i.size) := by rw [hv, hsz]; simp
  simp only [storeVar, sizeOf, typeInfo, Sem.run_bind, run_program, Result.andThen_ok, hi, Sem.run_pure, Sem.run_ite, if_neg e, hs]

theorem noL_take {M : Nat → Prop} {n : Nat} {μ : List MI} {w : World} {v : Value} {a : AV} (h : VA ⟨M, n, μ⟩ w v a) (hl : a.noL = true) : VA ⟨M, n, μ.take n⟩ w v a := by
  have at_ : ∀ {id : Nat} {m : MI}, Ctx.at ⟨M, n, μ⟩ (.b id) = some m → Ctx.at ⟨M, n, μ.take n⟩ (.b id) = some m := fun {id m} h => by
    simp only [Ctx.at] at h ⊢
    split at h
    · rename_i hlt; rw [if_pos hlt, List.getElem?_take, if_pos hlt]; exact h
    · cases h
  cases h with
  | p v e h => exact .p v e h
  | ref r off b h => cases r with | l => cases hl | b id => exact .ref _ off b (at_ h)
  | view0 r g sz n h => cases r with | l => cases hl | b id => exact .view0 _ g sz n (at_ h)
  | view r g sz n b len cap h h1 h2 => cases r with | l => cases hl | b id => exact .view _ g sz n b len cap (at_ h) h1 h2
  | viewOld v r g sz len b g' n h hg h0 => cases r with | l => cases hl | b id => exact .viewOld _ _ g sz len b g' n (at_ h) hg h0
  | viewGone v r g sz len h h0 => cases r with | l => cases hl | b id => exact .viewGone _ _ g sz len (at_ h) h0
  | elt r g sz n b idx off h => cases r with | l => cases hl | b id => exact .elt _ g sz n b idx off (at_ h)
  | eltOld v r g sz idx off b g' n h hg h0 => cases r with | l => cases hl | b id => exact .eltOld _ _ g sz idx off b g' n (at_ h) hg h0
  | eltGone v r g sz idx off h h0 => cases r with | l => cases hl | b id => exact .eltGone _ _ g sz idx off (at_ h) h0
  | mapr r b h => cases r with | l => cases hl | b id => exact .mapr _ b (at_ h)
  | maprGone v r h h0 => cases r with | l => cases hl | b id => exact .maprGone _ _ (at_ h) h0
  | clos => cases hl
  | agg => cases hl
  | tup => cases hl

theorem noLs_mem : ∀ {l : List AV}, noLs l = true → ∀ (j : Nat) (a : AV), l[j]? = some a → a.noL = true
  | [], _, j, a, h => by simp at h
  | b :: r, h, j, a, ha => by
    simp only [noLs, Bool.and_eq_true] at h
    cases j with
    | zero => simp at ha; subst ha; exact h.1
    | succ j => exact noLs_mem h.2 j a (by simpa using ha)

theorem arr_splice_get {xs vs : List Value} {off k : Nat} (h : off + vs.length ≤ xs.length) : ((xs.take off ++ vs ++ xs.drop (off + vs.length)).toArray)[k]? = if off ≤ k ∧ k < off + vs.length then vs[k - off]? else xs[k]? := by
  rw [List.getElem?_toArray]; exact splice_get h k

/-- A store into an object's cells. -/
theorem store_obj {Γ : Ctx} {w : World} {off : Nat} {xs : Array Value} {cs news : List AV} {v : Value} (hsz : xs.size = cs.length) (hold : ∀ (j : Nat) (x : Value) (c : AV), xs[j]? = some x → cs[j]? = some c → VA Γ w x c ∧ x.oneCell' = true)
    (hv : CellsV Γ w v.cells news) (h1 : ∀ (j : Nat) (x : Value), v.cells[j]? = some x → x.oneCell' = true) (hfit : off + news.length ≤ cs.length) :
    (xs.toList.take off ++ v.cells.toList ++ xs.toList.drop (off + v.cells.toList.length)).toArray.size = (cs.take off ++ news ++ cs.drop (off + news.length)).length ∧
    ∀ (j : Nat) (x : Value) (c : AV), (xs.toList.take off ++ v.cells.toList ++ xs.toList.drop (off + v.cells.toList.length)).toArray[j]? = some x → (cs.take off ++ news ++ cs.drop (off + news.length))[j]? = some c → VA Γ w x c ∧ x.oneCell' = true := by
  have e1 : v.cells.toList.length = news.length := by rw [Array.length_toList]; exact hv.1
  have f1 : off + v.cells.toList.length ≤ xs.toList.length := by rw [e1]; rw [show xs.toList.length = cs.length by rw [Array.length_toList, hsz]]; exact hfit
  refine ⟨by rw [List.size_toArray, splice_len f1, splice_len hfit, Array.length_toList, hsz], fun j x c hx hc => ?_⟩
  rw [arr_splice_get f1, e1] at hx
  rw [splice_get hfit] at hc
  by_cases hj : off ≤ j ∧ j < off + news.length
  · rw [if_pos hj] at hx hc
    have hx' : v.cells[j - off]? = some x := by simpa using hx
    exact ⟨hv.2 _ x c hx' hc, h1 _ x hx'⟩
  · rw [if_neg hj] at hx hc
    exact hold j x c (by simpa using hx) hc

theorem exec_store {t : TypeId} {x y : Operand} {a : Act} {w w' : World} {ad : Addr} (ho : o.op = .store t x y) (hx : a.eval x = .pointer (some ad)) (h : (storeVar t ad (a.eval y)).run P w = .ok () w') : (execOp a.eval o).run P w = .ok .skip w' := by
  simp [execOp, ho, hx, Instr.storeAt, Instr.sureAddr, h]

theorem s_store {t : TypeId} {n : Nat} {x y : Operand} {rx ry : Rv} (ho : o.op = .store t x y) (hn : sizeT P t = some n) (hx : rv x = some rx) (hy : rv y = some ry) (h : opV P d (.store n rx ry) fr ba lo K) : Sound1 P o fr ba lo K := by
  have hm : x ∈ o.op.operands.toList := by simp [ho, Op.operands]
  have hmy : y ∈ o.op.operands.toList := by simp [ho, Op.operands]
  simp only [opV, evK_eq] at h
  obtain ⟨news, hc, hsc, h⟩ := cellsK_out h
  cases hb : Nat.beq news.length n with
  | false => rw [hb] at h; exact h.elim
  | true =>
    rw [hb] at h
    have hnl : news.length = n := Nat.eq_of_beq_eq_true hb
    simp only [cond_true] at h
    split at h
    · rename_i m off e1
      obtain ⟨ob, hob, h⟩ := atK_out _ _ _ h
      split at h
      · rename_i cs
        obtain ⟨hfit, h⟩ := spliceK_out _ _ _ _ h
        obtain ⟨hml, h⟩ := setAtK_out _ _ _ _ h
        refine ⟨_, _, _, h, fun μ w a hi hp => ?_⟩
        obtain ⟨mi, g1, g2⟩ := hi.at_l hob
        obtain ⟨b, xs, ty, rfl, g3, g4, g5, g6⟩ := g2.acells
        have hptr := ref_inv (hp.get hm hx e1) g1
        have hv := (hp.get hmy hy rfl).cells hc
        have h1 := fun j x hx => hv.one hsc j x hx
        have hst := run_storeVar (P := P) (v := a.eval y) g3 hn (by rw [hv.1, hnl]) (by rw [g4, ← hnl]; exact hfit) h1
        obtain ⟨q1, q2⟩ := store_obj g4 g5 hv h1 hfit
        have hmi : μ[ba.length + m]? = some (.cells b) := g1
        obtain ⟨r1, r2⟩ := hi.change (w' := w.setRow b (xs.toList.take off ++ (a.eval y).cells.toList ++ xs.toList.drop (off + (a.eval y).cells.toList.length)).toArray) (ba' := ba) (lo' := lo.set m (.cells (cs.take off ++ news ++ cs.drop (off + news.length)))) hmi (.refl _)
          (fun b' hb' => .inl hb') rfl rfl rfl (by simp) (fun b' hb' hne => setRow_other w b b' _ (fun e => hne (by rw [e]; rfl))) rfl (by simp) (fun j hj => rfl)
          (fun k hk => by rw [List.getElem?_set_ne (by omega)]) (fun hle o' hlt => by omega) (fun hle k o' hk ho' => by
            have hk' : k = m := by omega
            subst hk'
            rw [List.getElem?_set] at ho'
            rw [if_pos rfl, if_pos hml] at ho'
            cases ho'
            exact .cells b _ ty _ (setRow_heap w b xs _ ty (0, 0) g3) q1 fun j x c hx hc => ⟨(q2 j x c hx hc).1.mono hle.stays hle.above, (q2 j x c hx hc).2⟩)
        exact ⟨undef, _, _, .inr ⟨exec_store ho hptr hst, rfl⟩, .p _ _ (.undef _), r1, r2, rfl⟩
      · exact h.elim
    · rename_i id off e1
      obtain ⟨ob, hob, h⟩ := atK_out _ _ _ h
      cases ob <;> first | exact (show False from h).elim | skip
      rename_i cs
      replace h : (match noLs news with | true => spliceK off news cs fun cs' => setAtK id ba (.cells cs') fun ba' => K (.p .undef) ba' lo | false => False) := h
      split at h
      case h_2 => exact h.elim
      rename_i hnl2
      obtain ⟨hfit, h⟩ := spliceK_out _ _ _ _ h
      obtain ⟨_, h⟩ := setAtK_out _ _ _ _ h
      refine ⟨_, _, _, h, fun μ w a hi hp => ?_⟩
      obtain ⟨mi, g1, g2⟩ := hi.at_b hob
      obtain ⟨b, xs, ty, rfl, g3, g4, g5, g6⟩ := g2.acells
      have hptr := ref_inv (hp.get hm hx e1) g1
      have hv := (hp.get hmy hy rfl).cells hc
      have h1 := fun j x hx => hv.one hsc j x hx
      have hst := run_storeVar (P := P) (v := a.eval y) g3 hn (by rw [hv.1, hnl]) (by rw [g4, ← hnl]; exact hfit) h1
      have hv' : CellsV ⟨blocks μ, ba.length, μ.take ba.length⟩ w (a.eval y).cells news := ⟨hv.1, fun j x c hx hc => noL_take (hv.2 j x c hx hc) (noLs_mem hnl2 j c hc)⟩
      obtain ⟨q1, q2⟩ := store_obj g4 g5 hv' h1 hfit
      have hidl := get_lt hob
      have hmi : μ[id]? = some (.cells b) := by
        simp only [Ctx.at] at g1
        rw [if_pos hidl] at g1
        exact g1
      obtain ⟨r1, r2⟩ := hi.change (w' := w.setRow b (xs.toList.take off ++ (a.eval y).cells.toList ++ xs.toList.drop (off + (a.eval y).cells.toList.length)).toArray) (ba' := ba.set id (.cells (cs.take off ++ news ++ cs.drop (off + news.length)))) (lo' := lo) hmi (.refl _)
        (fun b' hb' => .inl hb') rfl rfl rfl (by simp) (fun b' hb' hne => setRow_other w b b' _ (fun e => hne (by rw [e]; rfl))) (by simp) rfl
        (fun j hj => by rw [List.getElem?_set_ne (fun e => hj e.symm)]) (fun k hk => rfl) (fun hle o' hlt ho' => by
          rw [List.getElem?_set] at ho'
          rw [if_pos rfl, if_pos hidl] at ho'
          cases ho'
          refine .cells b _ ty _ (setRow_heap w b xs _ ty (0, 0) g3) q1 fun j x c hx hc => ⟨(q2 j x c hx hc).1.mono hle.stays ?_, (q2 j x c hx hc).2⟩
          intro i' m' h3
          rw [List.getElem?_take] at h3
          split at h3
          · rename_i hlt'
            obtain ⟨m3, h4, h5⟩ := hle.above i' m' h3
            exact ⟨m3, by rw [List.getElem?_take, if_pos hlt']; exact h4, h5⟩
          · cases h3) (fun hle k o' hk => by omega)
      exact ⟨undef, _, _, .inr ⟨exec_store ho hptr hst, rfl⟩, .p _ _ (.undef _), r1, r2, by simp⟩
    · rename_i m g sz idx off e1
      obtain ⟨ob, hob, h⟩ := atK_out _ _ _ h
      split at h
      · rename_i g' sz' es
        obtain ⟨⟨rfl, rfl⟩, e, he, h⟩ := h
        rcases allPK_out _ _ _ h with ⟨ps, hps, h⟩ | h
        case inr => exact h.elim
        have key : ∃ e', K (.p .undef) ba (lo.set m (.buf g sz (es.set idx e'))) ∧ m < lo.length ∧ ∀ (M : Nat → Prop) (w : World) (c : Value) (vs : Array Value), VP M w c e → c.cells.size = sz → vs.size = ps.length →
            (∀ (j : Nat) (x : Value) (p : PV), vs[j]? = some x → ps[j]? = some p → VP M w x p) → (∀ (j : Nat) (x : Value), vs[j]? = some x → x.oneCell' = true) →
            off + ps.length ≤ sz ∧ ∃ c' : Value, VP M w c' e' ∧ c'.cells.size = sz ∧ (∀ (j : Nat) (x : Value), c'.cells[j]? = some x → x.oneCell' = true) ∧ ∀ k, k < sz → c'.cells[k]? = if off ≤ k ∧ k < off + ps.length then vs[k - off]? else c.cells[k]? := by
          split at h
          · obtain ⟨hfit, h⟩ := spliceK_out _ _ _ _ h
            obtain ⟨hml, h⟩ := setAtK_out _ _ _ _ h
            refine ⟨_, h, hml, fun M w c vs v1 v2 v3 v4 v5 => ?_⟩
            cases v1 with
            | agg xs cs x1 x2 x3 =>
              simp only [Value.cells] at v2 ⊢
              have e3 : vs.toList.length = ps.length := by rw [Array.length_toList]; exact v3
              have f1 : off + vs.toList.length ≤ xs.toList.length := by rw [e3]; rw [show xs.toList.length = _ by rw [Array.length_toList, x1]]; exact hfit
              have getx : ∀ k, (xs.toList.take off ++ vs.toList ++ xs.toList.drop (off + vs.toList.length)).toArray[k]? = if off ≤ k ∧ k < off + ps.length then vs[k - off]? else xs[k]? := fun k => by
                rw [arr_splice_get f1, e3]; simp
              have one : ∀ (j : Nat) (x : Value), (xs.toList.take off ++ vs.toList ++ xs.toList.drop (off + vs.toList.length)).toArray[j]? = some x → x.oneCell' = true := fun j x hx => by
                rw [getx] at hx
                split at hx
                · exact v5 _ x hx
                · exact x3 _ x hx
              have hsz2 : (xs.toList.take off ++ vs.toList ++ xs.toList.drop (off + vs.toList.length)).toArray.size = xs.size := by rw [List.size_toArray, splice_len f1, Array.length_toList]
              refine ⟨by omega, .agg (xs.toList.take off ++ vs.toList ++ xs.toList.drop (off + vs.toList.length)).toArray, .agg _ _ (by rw [hsz2, splice_len hfit, x1]) (fun j x c hx hc => ?_) one, by simp only [Value.cells]; rw [hsz2]; exact v2, by simp only [Value.cells]; exact one, fun k _ => by simp only [Value.cells]; exact getx k⟩
              rw [getx] at hx
              rw [splice_get hfit] at hc
              by_cases hj : off ≤ j ∧ j < off + ps.length
              · rw [if_pos hj] at hx hc; exact v4 _ x c hx hc
              · rw [if_neg hj] at hx hc; exact x2 _ x c hx hc
          · exact h.elim
          · exact h.elim
          · split at h
            · obtain ⟨rfl, rfl, h⟩ := h
              obtain ⟨hml, h⟩ := setAtK_out _ _ _ _ h
              refine ⟨_, h, hml, fun M w c vs v1 v2 v3 v4 v5 => ?_⟩
              have hz : 0 < vs.size := by rw [v3]; simp
              have hv0 : vs[0]? = some vs[0] := Array.getElem?_eq_getElem hz
              have one := v5 0 _ hv0
              refine ⟨by simp, vs[0], v4 0 _ _ hv0 rfl, by rw [cells_of_oneCell one]; rfl, fun j x hx => ?_, fun k hk => ?_⟩
              · rw [cells_of_oneCell one] at hx
                cases j with
                | zero => simp at hx; rw [← hx]; exact one
                | succ j => simp at hx
              · have : k = 0 := by omega
                subst this
                rw [cells_of_oneCell one, if_pos (by simp)]
                simp [hv0]
            · exact h.elim
        obtain ⟨e', hk, hml, hel⟩ := key
        refine ⟨_, _, _, hk, fun μ w a hi hp => ?_⟩
        obtain ⟨mi, g1, g2⟩ := hi.at_l hob
        have hmi : μ[ba.length + m]? = some mi := g1
        rcases g2.row with ⟨n', rfl, rfl⟩ | ⟨b, xs, ty, rfl, g3, g4, g5⟩
        · simp at he
        · have hptr := elt_inv (hp.get hm hx e1) g1
          have hv := (hp.get hmy hy rfl).cells hc
          have h1 := fun j x hx => hv.one hsc j x hx
          obtain ⟨c, c1, c2, c3⟩ := g5.get he
          have hpl : (a.eval y).cells.size = ps.length := by rw [hv.1, hps, List.length_map]
          obtain ⟨l1, c', l2, l3, l4, l5⟩ := hel _ w c (a.eval y).cells c3 c1 hpl (fun j x p hx hp' => (hv.2 j x (.p p) hx (by rw [hps, List.getElem?_map, hp']; rfl)).pv) h1
          have hnl2 : ps.length = n := by rw [← hnl, hps, List.length_map]
          have hidx := get_lt he
          have hfit : idx * sz + off + n ≤ xs.size := by
            have h5 := Nat.mul_le_mul_right sz (show idx + 1 ≤ es.length from hidx)
            rw [Nat.add_mul, Nat.one_mul] at h5
            omega
          have hst := run_storeVar (P := P) (v := a.eval y) g3 hn (by rw [hv.1, hnl]) hfit h1
          have e3 : (a.eval y).cells.toList.length = ps.length := by rw [Array.length_toList]; exact hpl
          have f1 : idx * sz + off + (a.eval y).cells.toList.length ≤ xs.toList.length := by rw [e3, Array.length_toList (xs := xs)]; omega
          have hrow : ∀ {M : Nat → Prop} {w' : World}, Stays (blocks μ) w M w' → RowOf M w' sz (fun k => (xs.toList.take (idx * sz + off) ++ (a.eval y).cells.toList ++ xs.toList.drop (idx * sz + off + (a.eval y).cells.toList.length)).toArray[k]?) (es.set idx e') := fun {M w'} hs => by
            refine (g5.mono hs).set (l2.mono hs) l3 l4 fun k => ?_
            rw [arr_splice_get f1, e3]
            by_cases hk1 : idx * sz ≤ k ∧ k < idx * sz + sz
            · rw [if_pos hk1, l5 _ (by omega)]
              by_cases hk2 : off ≤ k - idx * sz ∧ k - idx * sz < off + ps.length
              · rw [if_pos hk2, if_pos (by omega)]
                simp
                congr 1
                omega
              · rw [if_neg hk2, if_neg (by omega)]
                have hk3 : k - idx * sz < c.cells.size := by rw [c1]; omega
                have := (c2 (k - idx * sz) _ (Array.getElem?_eq_getElem hk3)).2
                rw [show idx * sz + (k - idx * sz) = k by omega] at this
                rw [Array.getElem?_eq_getElem hk3, Array.getElem?_toList]
                exact this
            · rw [if_neg hk1, if_neg (by omega)]
              simp
          have hsz2 : (xs.toList.take (idx * sz + off) ++ (a.eval y).cells.toList ++ xs.toList.drop (idx * sz + off + (a.eval y).cells.toList.length)).toArray.size = xs.size := by rw [List.size_toArray, splice_len f1, Array.length_toList]
          obtain ⟨r1, r2⟩ := hi.change (w' := w.setRow b (xs.toList.take (idx * sz + off) ++ (a.eval y).cells.toList ++ xs.toList.drop (idx * sz + off + (a.eval y).cells.toList.length)).toArray) (ba' := ba) (lo' := lo.set m (.buf g sz (es.set idx e'))) hmi (.refl _)
            (fun b' hb' => .inl hb') rfl rfl rfl (by simp) (fun b' hb' hne => setRow_other w b b' _ (fun e => hne (by rw [e]; rfl))) rfl (by simp) (fun j hj => rfl)
            (fun k hk => by rw [List.getElem?_set_ne (by omega)]) (fun hle o' hlt => by omega) (fun hle k o' hk ho' => by
              have hk' : k = m := by omega
              subst hk'
              rw [List.getElem?_set] at ho'
              rw [if_pos rfl, if_pos hml] at ho'
              cases ho'
              have := ObOk.of_row (Γ := ⟨blocks (μ.set (ba.length + k) (.buf (some b) g xs.size)), ba.length, μ.set (ba.length + k) (.buf (some b) g xs.size)⟩) (g := g) (setRow_heap w b xs (xs.toList.take (idx * sz + off) ++ (a.eval y).cells.toList ++ xs.toList.drop (idx * sz + off + (a.eval y).cells.toList.length)).toArray ty (0, 0) g3) (by rw [hsz2, List.length_set]; exact g4) (hrow hle.stays)
              rw [hsz2] at this
              exact this)
          exact ⟨undef, _, _, .inr ⟨exec_store ho hptr hst, rfl⟩, .p _ _ (.undef _), r1, r2, rfl⟩
      · exact h.elim
    · rename_i m g sz idx off e1
      obtain ⟨ob, hob, h⟩ := atK_out _ _ _ h
      split at h
      · rename_i g' sz' es
        obtain ⟨⟨rfl, rfl⟩, e, he, h⟩ := h
        rcases allPK_out _ _ _ h with ⟨ps, hps, h⟩ | h
        case inr => exact h.elim
        have key : ∃ e', K (.p .undef) (ba.set m (.buf g sz (es.set idx e'))) lo ∧ m < ba.length ∧ ∀ (M : Nat → Prop) (w : World) (c : Value) (vs : Array Value), VP M w c e → c.cells.size = sz → vs.size = ps.length →
            (∀ (j : Nat) (x : Value) (p : PV), vs[j]? = some x → ps[j]? = some p → VP M w x p) → (∀ (j : Nat) (x : Value), vs[j]? = some x → x.oneCell' = true) →
            off + ps.length ≤ sz ∧ ∃ c' : Value, VP M w c' e' ∧ c'.cells.size = sz ∧ (∀ (j : Nat) (x : Value), c'.cells[j]? = some x → x.oneCell' = true) ∧ ∀ k, k < sz → c'.cells[k]? = if off ≤ k ∧ k < off + ps.length then vs[k - off]? else c.cells[k]? := by
          split at h
          · obtain ⟨hfit, h⟩ := spliceK_out _ _ _ _ h
            obtain ⟨hml, h⟩ := setAtK_out _ _ _ _ h
            refine ⟨_, h, hml, fun M w c vs v1 v2 v3 v4 v5 => ?_⟩
            cases v1 with
            | agg xs cs x1 x2 x3 =>
              simp only [Value.cells] at v2 ⊢
              have e3 : vs.toList.length = ps.length := by rw [Array.length_toList]; exact v3
              have f1 : off + vs.toList.length ≤ xs.toList.length := by rw [e3]; rw [show xs.toList.length = _ by rw [Array.length_toList, x1]]; exact hfit
              have getx : ∀ k, (xs.toList.take off ++ vs.toList ++ xs.toList.drop (off + vs.toList.length)).toArray[k]? = if off ≤ k ∧ k < off + ps.length then vs[k - off]? else xs[k]? := fun k => by
                rw [arr_splice_get f1, e3]; simp
              have one : ∀ (j : Nat) (x : Value), (xs.toList.take off ++ vs.toList ++ xs.toList.drop (off + vs.toList.length)).toArray[j]? = some x → x.oneCell' = true := fun j x hx => by
                rw [getx] at hx
                split at hx
                · exact v5 _ x hx
                · exact x3 _ x hx
              have hsz2 : (xs.toList.take off ++ vs.toList ++ xs.toList.drop (off + vs.toList.length)).toArray.size = xs.size := by rw [List.size_toArray, splice_len f1, Array.length_toList]
              refine ⟨by omega, .agg (xs.toList.take off ++ vs.toList ++ xs.toList.drop (off + vs.toList.length)).toArray, .agg _ _ (by rw [hsz2, splice_len hfit, x1]) (fun j x c hx hc => ?_) one, by simp only [Value.cells]; rw [hsz2]; exact v2, by simp only [Value.cells]; exact one, fun k _ => by simp only [Value.cells]; exact getx k⟩
              rw [getx] at hx
              rw [splice_get hfit] at hc
              by_cases hj : off ≤ j ∧ j < off + ps.length
              · rw [if_pos hj] at hx hc; exact v4 _ x c hx hc
              · rw [if_neg hj] at hx hc; exact x2 _ x c hx hc
          · exact h.elim
          · exact h.elim
          · split at h
            · obtain ⟨rfl, rfl, h⟩ := h
              obtain ⟨hml, h⟩ := setAtK_out _ _ _ _ h
              refine ⟨_, h, hml, fun M w c vs v1 v2 v3 v4 v5 => ?_⟩
              have hz : 0 < vs.size := by rw [v3]; simp
              have hv0 : vs[0]? = some vs[0] := Array.getElem?_eq_getElem hz
              have one := v5 0 _ hv0
              refine ⟨by simp, vs[0], v4 0 _ _ hv0 rfl, by rw [cells_of_oneCell one]; rfl, fun j x hx => ?_, fun k hk => ?_⟩
              · rw [cells_of_oneCell one] at hx
                cases j with
                | zero => simp at hx; rw [← hx]; exact one
                | succ j => simp at hx
              · have : k = 0 := by omega
                subst this
                rw [cells_of_oneCell one, if_pos (by simp)]
                simp [hv0]
            · exact h.elim
        obtain ⟨e', hk, hml, hel⟩ := key
        refine ⟨_, _, _, hk, fun μ w a hi hp => ?_⟩
        obtain ⟨mi, g1, g2⟩ := hi.at_b hob
        have hidl := get_lt hob
        have hmi : μ[m]? = some mi := by
          have g3 := g1
          simp only [Ctx.at] at g3
          rw [if_pos hidl] at g3
          exact g3
        rcases g2.of_take.row with ⟨n', rfl, rfl⟩ | ⟨b, xs, ty, rfl, g3, g4, g5⟩
        · simp at he
        · have hptr := elt_inv (hp.get hm hx e1) g1
          have hv := (hp.get hmy hy rfl).cells hc
          have h1 := fun j x hx => hv.one hsc j x hx
          obtain ⟨c, c1, c2, c3⟩ := g5.get he
          have hpl : (a.eval y).cells.size = ps.length := by rw [hv.1, hps, List.length_map]
          obtain ⟨l1, c', l2, l3, l4, l5⟩ := hel _ w c (a.eval y).cells c3 c1 hpl (fun j x p hx hp' => (hv.2 j x (.p p) hx (by rw [hps, List.getElem?_map, hp']; rfl)).pv) h1
          have hnl2 : ps.length = n := by rw [← hnl, hps, List.length_map]
          have hidx := get_lt he
          have hfit : idx * sz + off + n ≤ xs.size := by
            have h5 := Nat.mul_le_mul_right sz (show idx + 1 ≤ es.length from hidx)
            rw [Nat.add_mul, Nat.one_mul] at h5
            omega
          have hst := run_storeVar (P := P) (v := a.eval y) g3 hn (by rw [hv.1, hnl]) hfit h1
          have e3 : (a.eval y).cells.toList.length = ps.length := by rw [Array.length_toList]; exact hpl
          have f1 : idx * sz + off + (a.eval y).cells.toList.length ≤ xs.toList.length := by rw [e3, Array.length_toList (xs := xs)]; omega
          have hrow : ∀ {M : Nat → Prop} {w' : World}, Stays (blocks μ) w M w' → RowOf M w' sz (fun k => (xs.toList.take (idx * sz + off) ++ (a.eval y).cells.toList ++ xs.toList.drop (idx * sz + off + (a.eval y).cells.toList.length)).toArray[k]?) (es.set idx e') := fun {M w'} hs => by
            refine (g5.mono hs).set (l2.mono hs) l3 l4 fun k => ?_
            rw [arr_splice_get f1, e3]
            by_cases hk1 : idx * sz ≤ k ∧ k < idx * sz + sz
            · rw [if_pos hk1, l5 _ (by omega)]
              by_cases hk2 : off ≤ k - idx * sz ∧ k - idx * sz < off + ps.length
              · rw [if_pos hk2, if_pos (by omega)]
                simp
                congr 1
                omega
              · rw [if_neg hk2, if_neg (by omega)]
                have hk3 : k - idx * sz < c.cells.size := by rw [c1]; omega
                have := (c2 (k - idx * sz) _ (Array.getElem?_eq_getElem hk3)).2
                rw [show idx * sz + (k - idx * sz) = k by omega] at this
                rw [Array.getElem?_eq_getElem hk3, Array.getElem?_toList]
                exact this
            · rw [if_neg hk1, if_neg (by omega)]
              simp
          have hsz2 : (xs.toList.take (idx * sz + off) ++ (a.eval y).cells.toList ++ xs.toList.drop (idx * sz + off + (a.eval y).cells.toList.length)).toArray.size = xs.size := by rw [List.size_toArray, splice_len f1, Array.length_toList]
          obtain ⟨r1, r2⟩ := hi.change (w' := w.setRow b (xs.toList.take (idx * sz + off) ++ (a.eval y).cells.toList ++ xs.toList.drop (idx * sz + off + (a.eval y).cells.toList.length)).toArray) (ba' := ba.set m (.buf g sz (es.set idx e'))) (lo' := lo) hmi (.refl _)
            (fun b' hb' => .inl hb') rfl rfl rfl (by simp) (fun b' hb' hne => setRow_other w b b' _ (fun e => hne (by rw [e]; rfl))) (by simp) rfl
            (fun j hj => by rw [List.getElem?_set_ne (fun e => hj e.symm)]) (fun k hk => rfl) (fun hle o' hlt ho' => by
              rw [List.getElem?_set] at ho'
              rw [if_pos rfl, if_pos hml] at ho'
              cases ho'
              have := ObOk.of_row (Γ := ⟨blocks (μ.set m (.buf (some b) g xs.size)), ba.length, (μ.set m (.buf (some b) g xs.size)).take ba.length⟩) (g := g) (setRow_heap w b xs (xs.toList.take (idx * sz + off) ++ (a.eval y).cells.toList ++ xs.toList.drop (idx * sz + off + (a.eval y).cells.toList.length)).toArray ty (0, 0) g3) (by rw [hsz2, List.length_set]; exact g4) (hrow hle.stays)
              rw [hsz2] at this
              exact this) (fun hle k o' hk => by omega)
          exact ⟨undef, _, _, .inr ⟨exec_store ho hptr hst, rfl⟩, .p _ _ (.undef _), r1, r2, by simp⟩
      · exact h.elim
    · exact h.elim

end ops
end Go.Proofs.Ytemfnlidinnniaa.AD

namespace Go.Proofs.Ytemfnlidinnniaa.AD
set_option linter.unusedVariables false
set_option linter.unusedSimpArgs false

section ops
variable {P : Program} {o : Oper} {fr : FR} {ba lo : List Ob} {K : AV → List Ob → List Ob → Prop} {d : Bool}

/-- What is appended: so many elements, as cells, whatever the world has drawn. -/
structure SrcV (P : Program) (tx : TypeId) (size n : Nat) (news : List Value) (x : Value) (w : World) : Prop where
  kind : P.underlying tx = some .string ∨ ∃ e, P.underlying tx = some (.slice e)
  len : ∀ w, (Builtin.lenOf x).run P w = .ok n w
  cells : (Builtin.firstCells size n x).run P w = .ok news.toArray w
  cells' : (Builtin.firstCells size n x).run P w.drew = .ok news.toArray w.drew

theorem run_app_room {t tx ty e : TypeId} {i : TypeInfo} (ht : P.underlying t = some (.slice e)) (hi : P.info? e = some i) {w w' : World} {base : Option Addr} {sLen sCap n : Nat} {news : List Value} {x : Value} (hs : SrcV P tx i.size n news x w) (hroom : sLen + n ≤ sCap)
    (hst : match base with | some a => (storeCells (a.add (sLen * i.size)) news).run P w = .ok () w' | none => w' = w) : (Builtin.append_ #[t, tx] ty #[.slice base sLen sCap, x]).run P w = .ok (.slice base (sLen + n) sCap) w' := by
  have h1 := hs.cells
  have h2 := hs.len w
  rcases hs.kind with hk | ⟨e', hk⟩ <;> cases base with
  | none => subst hst; simp [Builtin.append_, run_underlying ht, run_underlying hk, sizeOf, typeInfo, hi, h2, h1, hroom]
  | some a => simp [Builtin.append_, run_underlying ht, run_underlying hk, sizeOf, typeInfo, hi, h2, h1, hroom, hst]

theorem run_app_grow {t tx ty e : TypeId} {i : TypeInfo} {z : Value} (ht : P.underlying t = some (.slice e)) (hi : P.info? e = some i) (hz : i.zero = some z) {w : World} {base : Option Addr} {sLen sCap n : Nat} {olds news : List Value} {x : Value} (hs : SrcV P tx i.size n news x w) (hroom : ¬ sLen + n ≤ sCap)
    (hold : (Builtin.firstCells i.size sLen (.slice base sLen sCap)).run P w.drew = .ok olds.toArray w.drew) (hb0 : 0 < i.bytes) (hfit : (sLen + n) * i.bytes ≤ 140737488355328) :
    (Builtin.append_ #[t, tx] ty #[.slice base sLen sCap, x]).run P w = .ok (.slice (some ⟨w.heap.size, 0, none⟩) (sLen + n) (grownCap w (sLen + n) sCap e))
      (w.drew.alloc (.cells (olds.toArray ++ news.toArray ++ Builtin.zeroCells z.cells (grownCap w (sLen + n) sCap e - (sLen + n))) e)) := by
  have h1 := hs.cells'
  have h2 := hs.len w
  have hlt : sCap < sLen + n := by omega
  have h48 : ¬ (281474976710656 < Builtin.nextslicecap (sLen + n) sCap * i.bytes) := by have := growslice_fits hlt hfit; omega
  have h48' : ¬ (Builtin.nextslicecap (sLen + n) sCap * i.bytes > 2 ^ 48) := by have := growslice_fits hlt hfit; omega
  have h63 : ¬ (((sLen + n : Nat) : Int) > IntKind.i64.max ∧ (false = true ∨ i.bytes = 0)) := by rintro ⟨_, h | h⟩ <;> first | cases h | omega
  have hb1 : ¬ i.bytes = 0 := by omega
  rcases hs.kind with hk | ⟨e', hk⟩ <;> simp [Builtin.append_, run_underlying ht, run_underlying hk, sizeOf, typeInfo, zeroValue, hi, hz, h2, hroom, Question.forced, h1, hold, newRow, grownCap, h48, hb1] <;> (congr 2; apply Array.ext'; simp [List.append_assoc])

/-- A row laid anew behind an append that grows. -/
theorem grown_row {M : Nat → Prop} {w : World} {sz cap : Nat} {es ys : List PV} {olds news : List Value} {z : Array Value} (ho : olds.length = es.length * sz) (hn : news.length = ys.length * sz) (hr : RowOf M w sz (fun k => olds[k]?) es) (hy : RowOf M w sz (fun k => news[k]?) ys) (hz : z.size = sz) (hc : es.length + ys.length ≤ cap) :
    (olds.toArray ++ news.toArray ++ Builtin.zeroCells z (cap - (es.length + ys.length))).size = cap * sz ∧ RowOf M w sz (fun k => (olds.toArray ++ news.toArray ++ Builtin.zeroCells z (cap - (es.length + ys.length)))[k]?) (es ++ ys) := by
  refine ⟨?_, hr.append hy (fun k hk => ?_) fun k hk => ?_⟩
  · simp only [Array.size_append, List.size_toArray, size_zeroCells, ho, hn, hz]
    rw [← Nat.add_mul, ← Nat.add_mul]
    congr 1
    omega
  · rw [Array.getElem?_append_left (by simp; omega), Array.getElem?_append_left (by simp; omega)]
    simp
  · rw [Array.getElem?_append_left (by simp; omega), Array.getElem?_append_right (by simp; omega)]
    simp [ho]

theorem le_cap (w : World) (need old : Nat) (e : TypeId) : need ≤ grownCap w need old e := by unfold grownCap Question.cut; simp

theorem first_row {w : World} {sz b n : Nat} {es : List PV} {M : Nat → Prop} {xs : Array Value} {ty : TypeId} (hb : w.heap[b]? = some (.cells xs ty (0, 0))) (hr : RowOf M w sz (fun k => xs[k]?) es) (len cap : Nat) :
    ∃ olds : List Value, olds.length = es.length * sz ∧ (∀ (j : Nat) (u : Value), olds[j]? = some u → xs[j]? = some u) ∧ (∀ u, u ∈ olds → u.oneCell' = true) ∧ (Builtin.firstCells sz es.length (.slice (some ⟨b, 0, none⟩) len cap)).run P w = .ok olds.toArray w ∧ (Builtin.firstCells sz es.length (.slice (some ⟨b, 0, none⟩) len cap)).run P w.drew = .ok olds.toArray w.drew := by
  obtain ⟨olds, h1, h2, h3⟩ := hr.list
  refine ⟨olds, h1, h2, h3, ?_, ?_⟩
  · exact run_firstCells_some w sz es.length _ len cap olds h1 fun j v hj => by rw [add_none, Nat.zero_add, cell_of_row w b j xs ty (0, 0) hb]; exact h2 j v hj
  · exact run_firstCells_some w.drew sz es.length _ len cap olds h1 fun j v hj => by rw [add_none, Nat.zero_add, World.cell?_drew, cell_of_row w b j xs ty (0, 0) hb]; exact h2 j v hj

/-- The same row, said of its list. -/
theorem row_list {M : Nat → Prop} {w : World} {sz : Nat} {f : Nat → Option Value} {es : List PV} {l : List Value} (hr : RowOf M w sz f es) (hl : l.length = es.length * sz) (h : ∀ (j : Nat) (u : Value), l[j]? = some u → f j = some u) : RowOf M w sz (fun k => l[k]?) es :=
  hr.congr fun k hk => by
    have h1 : l[k]? = some l[k] := List.getElem?_eq_getElem (by omega)
    rw [h1, h k _ h1]

theorem appK_out {sz bytes : Nat} {x : AV} {ys : List PV} {t tx ty e : TypeId} {i : TypeInfo} {z : Value} (ht : P.underlying t = some (.slice e)) (hi : P.info? e = some i) (hz : i.zero = some z) (hsz : i.size = sz) (hby : i.bytes = bytes) (hzs : z.cells.size = sz) (h0 : 0 < bytes)
    (h : appK sz bytes x ys ba lo K) : ∃ v ba' lo', K v ba' lo' ∧ ∀ (μ : List MI) (w : World) (xv yv : Value) (news : List Value), Inv μ w ba lo → VA ⟨blocks μ, ba.length, μ⟩ w xv x → SrcV P tx sz ys.length news yv w → news.length = ys.length * sz → RowOf (blocks μ) w sz (fun k => news[k]?) ys → (∀ u, u ∈ news → u.oneCell' = true) →
      ∃ c w' μ', (Builtin.append_ #[t, tx] ty #[xv, yv]).run P w = .ok c w' ∧ VA ⟨blocks μ', ba.length, μ'⟩ w' c v ∧ Inv μ' w' ba' lo' ∧ Le μ w μ' w' ∧ ba'.length = ba.length := by
  subst hsz; subst hby
  unfold appK at h
  -- a row laid anew
  have fresh : ∀ (μ : List MI) (w : World) (C : Array Value), Inv μ w ba lo → Le μ w μ (w.drew.alloc (.cells C e)) := fun μ w C hinv => (le_drew μ w).trans (le_alloc μ (hinv.grow (le_drew μ w) fun b hb => rfl) _)
  have hroomB : ∀ n, room n i.bytes → n * i.bytes ≤ 140737488355328 := fun n hn => by unfold room at hn; omega
  -- onto an object: i0 its number
  have onto : ∀ (g len : Nat) (es : List PV), len ≤ es.length → room (len + ys.length) i.bytes → ∀ (μ : List MI) (w : World) (xv yv : Value) (news : List Value) (r : Rf) (i0 : Nat) (mi : MI), Inv μ w ba lo → μ[i0]? = some mi → Ctx.at ⟨blocks μ, ba.length, μ⟩ r = some mi → (∀ (M : Nat → Prop) (μ' : List MI), Ctx.at ⟨M, ba.length, μ'⟩ r = μ'[i0]?) → ObOk ⟨blocks μ, ba.length, μ⟩ w mi (.buf g i.size es) → VA ⟨blocks μ, ba.length, μ⟩ w xv (.view r g i.size len) → SrcV P tx i.size ys.length news yv w → news.length = ys.length * i.size → RowOf (blocks μ) w i.size (fun k => news[k]?) ys → (∀ u, u ∈ news → u.oneCell' = true) →
      ∃ c w' mi', (Builtin.append_ #[t, tx] ty #[xv, yv]).run P w = .ok c w' ∧ MI.le mi mi' ∧ (∀ b, mi'.block? = some b → mi.block? = some b ∨ w.heap.size ≤ b) ∧ w'.os = w.os ∧ w'.tape = w.tape ∧ w'.output = w.output ∧ w.heap.size ≤ w'.heap.size ∧ (∀ b, b < w.heap.size → mi.block? ≠ some b → w'.heap[b]? = w.heap[b]?) ∧
        (∀ (M : Nat → Prop) (μ' : List MI), μ'[i0]? = some mi' → VA ⟨M, ba.length, μ'⟩ w' c (.view r (g + 1) i.size (len + ys.length))) ∧ ∀ (Γ : Ctx), Stays (blocks μ) w Γ.M w' → ObOk Γ w' mi' (.buf (g + 1) i.size (es.take len ++ ys)) := by
    intro g len es hlen hroom μ w xv yv news r i0 mi hinv hmi hat hatr hob hx hs hn hy h1
    have hlt : (es.take len).length = len := by rw [List.length_take]; omega
    rcases hob.row with ⟨n', rfl, rfl⟩ | ⟨b, xs, ty', rfl, hb, hle, hr⟩
    · -- nothing yet
      obtain ⟨_, rfl, rfl⟩ | ⟨b', cap, e', _⟩ := view_inv hx hat
      case inr => cases e'
      by_cases hy0 : ys.length ≤ 0
      · have ey : ys = [] := List.length_eq_zero_iff.1 (by omega)
        subst ey
        have hrun := run_app_room (P := P) (t := t) (ty := ty) (w' := w) ht hi (base := none) (sLen := 0) (sCap := 0) hs (by simp) rfl
        refine ⟨_, w, .buf none (g + 1) n', hrun, .buf _ _ _ _ _ _ (Nat.lt_succ_self _), fun b hb => (by cases hb), rfl, rfl, rfl, Nat.le_refl _, fun b _ _ => rfl, fun M μ' hμ => ?_, fun Γ _ => ?_⟩
        · exact .view0 r (g + 1) i.size n' (by rw [hatr]; exact hμ)
        · simpa using ObOk.buf0 (Γ := Γ) (w := w) (g + 1) i.size n'
      · have hold : (Builtin.firstCells i.size 0 (.slice none 0 0)).run P w.drew = .ok (([] : List Value).toArray) w.drew := by simp [Builtin.firstCells]
        have hrun := run_app_grow (P := P) (t := t) (ty := ty) ht hi hz (base := none) (sLen := 0) (sCap := 0) (olds := []) hs (by omega) hold h0 (hroomB _ hroom)
        have hcap := le_cap w (0 + ys.length) 0 e
        generalize grownCap w (0 + ys.length) 0 e = cap at hrun hcap
        obtain ⟨q1, q2⟩ := grown_row (M := blocks μ) (w := w) (sz := i.size) (es := []) (olds := []) (z := z.cells) (cap := cap) (by simp) hn RowOf.nil hy hzs (by simpa using hcap)
        simp only [List.length_nil] at q1 q2
        generalize hC : (([] : List Value).toArray ++ news.toArray ++ Builtin.zeroCells z.cells (cap - (0 + ys.length))) = C at hrun q1 q2
        have hnew := heap_alloc_new w.drew (.cells C e)
        refine ⟨_, _, .buf (some w.heap.size) (g + 1) C.size, hrun, .buf _ _ _ _ _ _ (Nat.lt_succ_self _), fun b hb => .inr (by cases hb; exact Nat.le_refl _), rfl, rfl, rfl, by simp, fun b hb _ => heap_alloc_old w.drew _ b hb, fun M μ' hμ => ?_, fun Γ hs => ?_⟩
        · exact .view r (g + 1) i.size C.size w.heap.size _ cap (by rw [hatr]; exact hμ) (by omega) q1.symm
        · simp only [List.take_nil, List.nil_append] at q2 ⊢
          exact ObOk.of_row hnew (by rw [q1]; exact Nat.mul_le_mul_right _ (by omega)) (q2.mono hs)
    · obtain ⟨e', _, _⟩ | ⟨b', cap, e', rfl, hlc, hcs⟩ := view_inv hx hat
      case inl => cases e'
      cases e'
      have hrt := hr.take len
      obtain ⟨olds, o1, o2, o3, o4, o5⟩ := first_row (P := P) (n := 0) hb hrt len cap
      rw [hlt] at o1 o4 o5
      by_cases hrm : len + ys.length ≤ cap
      · -- there is room
        have hfit : len * i.size + news.length ≤ xs.size := by
          rw [hn, ← Nat.add_mul, ← hcs]; exact Nat.mul_le_mul_right _ hrm
        have hst := run_storeCells_at P b (len * i.size) ty' news 0 xs w hb (by simpa using hfit) h1
        simp only [Nat.add_zero] at hst
        have hrun := run_app_room (P := P) (t := t) (ty := ty) ht hi (base := some ⟨b, 0, none⟩) (sLen := len) (sCap := cap) (w' := w.setRow b (xs.toList.take (len * i.size) ++ news ++ xs.toList.drop (len * i.size + news.length)).toArray) hs hrm (by show (storeCells ((⟨b, 0, none⟩ : Addr).add (len * i.size)) news).run P w = _; rw [add_none, Nat.zero_add]; exact hst)
        have f1 : len * i.size + news.length ≤ xs.toList.length := by rw [Array.length_toList (xs := xs)]; exact hfit
        have hsz2 : (xs.toList.take (len * i.size) ++ news ++ xs.toList.drop (len * i.size + news.length)).toArray.size = xs.size := by rw [List.size_toArray, splice_len f1, Array.length_toList]
        refine ⟨_, _, .buf (some b) (g + 1) xs.size, hrun, .buf _ _ _ _ _ _ (Nat.lt_succ_self _), fun b' hb' => .inl hb', rfl, rfl, rfl, by simp, fun b' hb' hne => setRow_other w b b' _ (fun e => hne (by rw [e]; rfl)), fun M μ' hμ => ?_, fun Γ hs => ?_⟩
        · exact .view r (g + 1) i.size xs.size b _ cap (by rw [hatr]; exact hμ) hrm hcs
        · have hrow : RowOf Γ.M (w.setRow b (xs.toList.take (len * i.size) ++ news ++ xs.toList.drop (len * i.size + news.length)).toArray) i.size (fun k => (xs.toList.take (len * i.size) ++ news ++ xs.toList.drop (len * i.size + news.length)).toArray[k]?) (es.take len ++ ys) := by
            refine (hrt.mono hs).append (hy.mono hs) (fun k hk => ?_) fun k hk => ?_
            · rw [hlt] at hk
              rw [arr_splice_get f1, if_neg (by omega)]; simp
            · rw [hlt, arr_splice_get f1, if_pos (by omega), show len * i.size + k - len * i.size = k by omega]
          have := ObOk.of_row (Γ := Γ) (g := g + 1) (setRow_heap w b xs (xs.toList.take (len * i.size) ++ news ++ xs.toList.drop (len * i.size + news.length)).toArray ty' (0, 0) hb) (by rw [hsz2, List.length_append, hlt, ← hcs]; exact Nat.mul_le_mul_right _ hrm) hrow
          rw [hsz2] at this
          exact this
      · have hrun := run_app_grow (P := P) (t := t) (ty := ty) ht hi hz (base := some ⟨b, 0, none⟩) (sLen := len) (sCap := cap) (olds := olds) hs hrm o5 h0 (hroomB _ hroom)
        have hcap := le_cap w (len + ys.length) cap e
        generalize grownCap w (len + ys.length) cap e = cap2 at hrun hcap
        obtain ⟨q1, q2⟩ := grown_row (M := blocks μ) (w := w) (sz := i.size) (es := es.take len) (olds := olds) (z := z.cells) (cap := cap2) (by rw [hlt]; exact o1) hn (row_list hrt (by rw [hlt]; exact o1) o2) hy hzs (by rw [hlt]; exact hcap)
        rw [hlt] at q1 q2
        generalize hC : (olds.toArray ++ news.toArray ++ Builtin.zeroCells z.cells (cap2 - (len + ys.length))) = C at hrun q1 q2
        have hnew := heap_alloc_new w.drew (.cells C e)
        refine ⟨_, _, .buf (some w.heap.size) (g + 1) C.size, hrun, .buf _ _ _ _ _ _ (Nat.lt_succ_self _), fun b hb => .inr (by cases hb; exact Nat.le_refl _), rfl, rfl, rfl, by simp, fun b hb _ => heap_alloc_old w.drew _ b hb, fun M μ' hμ => ?_, fun Γ hs => ?_⟩
        · exact .view r (g + 1) i.size C.size w.heap.size _ cap2 (by rw [hatr]; exact hμ) (by omega) q1.symm
        · exact ObOk.of_row hnew (by rw [q1, List.length_append, hlt]; exact Nat.mul_le_mul_right _ (by omega)) (q2.mono hs)
  split at h
  · -- nil
    obtain ⟨hroom, h⟩ := h
    rw [pushK_eq] at h
    refine ⟨_, _, _, h, fun μ w xv yv news hinv hx hs hn hy h1 => ?_⟩
    have hx := hx.pv
    cases hx
    by_cases hy0 : ys.length ≤ 0
    · have ey : ys = [] := List.length_eq_zero_iff.1 (by omega)
      subst ey
      have hrun := run_app_room (P := P) (t := t) (ty := ty) (w' := w) ht hi (base := none) (sLen := 0) (sCap := 0) hs (by simp) rfl
      obtain ⟨p1, p2, p3⟩ := hinv.push (w' := w) (.buf none 0 0) (.buf 0 i.size []) (fun b hb => by cases hb) rfl rfl rfl (Nat.le_refl _) (fun b hb => rfl) fun hle => .buf0 _ _ _
      exact ⟨_, w, _, hrun, .view0 _ 0 i.size 0 p3, p1, p2, rfl⟩
    · have hold : (Builtin.firstCells i.size 0 (.slice none 0 0)).run P w.drew = .ok (([] : List Value).toArray) w.drew := by simp [Builtin.firstCells]
      have hrun := run_app_grow (P := P) (t := t) (ty := ty) ht hi hz (base := none) (sLen := 0) (sCap := 0) (olds := []) hs (by omega) hold h0 (by rw [Nat.zero_add]; exact hroomB _ hroom)
      have hcap := le_cap w (0 + ys.length) 0 e
      generalize grownCap w (0 + ys.length) 0 e = cap at hrun hcap
      obtain ⟨q1, q2⟩ := grown_row (M := blocks μ) (w := w) (sz := i.size) (es := []) (olds := []) (z := z.cells) (cap := cap) (by simp) hn RowOf.nil hy hzs (by simpa using hcap)
      simp only [List.length_nil] at q1 q2
      generalize hC : (([] : List Value).toArray ++ news.toArray ++ Builtin.zeroCells z.cells (cap - (0 + ys.length))) = C at hrun q1 q2
      have hnew := heap_alloc_new w.drew (.cells C e)
      obtain ⟨p1, p2, p3⟩ := hinv.push (w' := w.drew.alloc (.cells C e)) (.buf (some w.heap.size) 0 C.size) (.buf 0 i.size ys) (fun b hb => by cases hb; exact Nat.le_refl _) rfl rfl rfl (by simp) (fun b hb => heap_alloc_old w.drew _ b hb) fun hle =>
        ObOk.of_row hnew (by rw [q1]; exact Nat.mul_le_mul_right _ (by omega)) (by simpa using q2.mono hle.stays)
      rw [Nat.zero_add] at hrun
      exact ⟨_, _, _, hrun, .view _ 0 i.size C.size w.heap.size _ cap p3 (by omega) q1.symm, p1, p2, rfl⟩
  · rename_i m g sz' len
    obtain ⟨o', ho', h⟩ := atK_out _ _ _ h
    split at h
    · rename_i g' sz'' es
      obtain ⟨⟨e1, e2, e3, hlen⟩, hroom, zs, ez, h⟩ := h
      obtain ⟨hml, h⟩ := setAtK_out _ _ _ _ h
      subst e1; subst e2; subst e3; subst ez
      refine ⟨_, _, _, h, fun μ w xv yv news hinv hx hs hn hy h1 => ?_⟩
      obtain ⟨mi, g1, g2⟩ := hinv.at_l ho'
      obtain ⟨c, w', mi', k1, k2, k3, k4, k5, k6, k7, k8, k9, k10⟩ := onto g len es hlen hroom μ w xv yv news (.l m) (ba.length + m) mi hinv g1 g1 (fun _ _ => rfl) g2 hx hs hn hy h1
      have hmi : μ[ba.length + m]? = some mi := g1
      obtain ⟨r1, r2⟩ := hinv.change (i := ba.length + m) (w' := w') (ba' := ba) (lo' := lo.set m (.buf (g + 1) i.size (es.take len ++ ys))) hmi k2 k3 k4 k5 k6 k7 k8 rfl (by simp) (fun j hj => rfl)
        (fun k hk => by rw [List.getElem?_set_ne (by omega)]) (fun hle o' hlt => by omega) (fun hle k o' hk ho' => by
          have hk' : k = m := by omega
          subst hk'
          rw [List.getElem?_set, if_pos rfl, if_pos hml] at ho'
          cases ho'
          exact k10 _ hle.stays)
      refine ⟨c, w', _, k1, k9 _ _ ?_, r1, r2, rfl⟩
      rw [List.getElem?_set, if_pos rfl, if_pos (get_lt g1)]
    · exact h.elim
  · rename_i id g sz' len
    obtain ⟨ob, ho', h⟩ := atK_out _ _ _ h
    cases ob <;> first | exact (show False from h).elim | skip
    rename_i g' sz'' es
    obtain ⟨⟨e1, e2, e3, hlen⟩, hroom, zs, ez, h⟩ := h
    subst e1; subst e2; subst e3; subst ez
    obtain ⟨_, h⟩ := setAtK_out _ _ _ _ h
    refine ⟨_, _, _, h, fun μ w xv yv news hinv hx hs hn hy h1 => ?_⟩
    obtain ⟨mi, g1, g2⟩ := hinv.at_b ho'
    have hidl := get_lt ho'
    have hmi : μ[id]? = some mi := by
      have g3 := g1
      simp only [Ctx.at] at g3
      rw [if_pos hidl] at g3
      exact g3
    obtain ⟨c, w', mi', k1, k2, k3, k4, k5, k6, k7, k8, k9, k10⟩ := onto g len es hlen hroom μ w xv yv news (.b id) id mi hinv hmi g1 (fun M μ' => by simp only [Ctx.at]; rw [if_pos hidl]) g2.of_take hx hs hn hy h1
    obtain ⟨r1, r2⟩ := hinv.change (w' := w') (ba' := ba.set id (.buf (g + 1) i.size (es.take len ++ ys))) (lo' := lo) hmi k2 k3 k4 k5 k6 k7 k8 (by simp) rfl (fun j hj => by rw [List.getElem?_set_ne (fun e => hj e.symm)])
      (fun k hk => rfl) (fun hle o' hlt ho' => by
        rw [List.getElem?_set, if_pos rfl, if_pos hidl] at ho'
        cases ho'
        exact k10 _ hle.stays) (fun hle k o' hk => by omega)
    refine ⟨c, w', _, k1, k9 _ _ ?_, r1, r2, by simp⟩
    rw [List.getElem?_set, if_pos rfl, if_pos (get_lt hmi)]
  · exact h.elim

theorem s_app {t tx e : TypeId} {x y : Operand} {rx ry : Rv} {i : TypeInfo} {z : Value} (ho : o.op = .call { callee := .builtin .append, args := #[x, y], argTypes := #[t, tx] }) (ht : P.underlying t = some (.slice e)) (hi : P.info? e = some i) (hz : i.zero = some z) (hzs : z.cells.size = i.size) (h0 : 0 < i.bytes)
    {e' : TypeId} (htx : P.underlying tx = some (.slice e')) (hx : rv x = some rx) (hy : rv y = some ry) (h : opV P d (.app i.size i.bytes rx ry) fr ba lo K) : Sound1 P o fr ba lo K := by
  have hm : x ∈ o.op.operands.toList := by simp [ho, Op.operands, Call.operands]
  have hmy : y ∈ o.op.operands.toList := by simp [ho, Op.operands, Call.operands]
  simp only [opV, evK_eq] at h
  obtain ⟨ys, h, hc⟩ := contK_out (P := P) h
  obtain ⟨v, ba', lo', hk, hs⟩ := appK_out (P := P) (tx := tx) (ty := o.type) ht hi hz rfl rfl hzs h0 h
  refine ⟨v, ba', lo', hk, fun μ w a hinv hp => ?_⟩
  obtain ⟨A, c, h1, h2, h3, h4⟩ := hc μ w _ hinv (hp.get hmy hy rfl)
  obtain ⟨news, n1, n2, n3⟩ := h2.list
  have hfc : ∀ w', (∀ k, w'.cell? k = w.cell? k) → (Builtin.firstCells i.size ys.length (a.eval y)).run P w' = .ok news.toArray w' := fun w' hw => by
    rw [h1]
    cases A with
    | none =>
      have := h3 rfl
      subst this
      have : news = [] := List.length_eq_zero_iff.1 (by simpa using n1)
      subst this
      simp [Builtin.firstCells]
    | some ad => exact run_firstCells_some w' i.size ys.length ad ys.length c news n1 fun j u hj => by rw [hw]; exact n2 j u hj
  obtain ⟨cv, w', μ', g1, g2, g3, g4, g5⟩ := hs μ w (a.eval x) (a.eval y) news hinv (hp.get hm hx rfl) ⟨.inr ⟨e', htx⟩, fun w => by rw [h1]; rfl, hfc w fun _ => rfl, hfc w.drew fun _ => rfl⟩ n1 (row_list h2 n1 n2) n3
  exact ⟨cv, w', μ', .inl (by simp [execOp, ho, resolve, invoke, builtin, g1]), g2, g3, g4, g5⟩

theorem s_appS {t tx e : TypeId} {x y : Operand} {rx ry : Rv} {i : TypeInfo} {z : Value} (ho : o.op = .call { callee := .builtin .append, args := #[x, y], argTypes := #[t, tx] }) (ht : P.underlying t = some (.slice e)) (hi : P.info? e = some i) (hz : i.zero = some z) (hzs : z.cells.size = i.size) (h1 : i.size = 1) (h2 : i.bytes = 1)
    (htx : P.underlying tx = some .string) (hx : rv x = some rx) (hy : rv y = some ry) (h : opV P d (.appS rx ry) fr ba lo K) : Sound1 P o fr ba lo K := by
  have hm : x ∈ o.op.operands.toList := by simp [ho, Op.operands, Call.operands]
  have hmy : y ∈ o.op.operands.toList := by simp [ho, Op.operands, Call.operands]
  simp only [opV, evK_eq] at h
  split at h
  · rename_i s e1
    obtain ⟨v, ba', lo', hk, hs⟩ := appK_out (P := P) (tx := tx) (ty := o.type) ht hi hz h1 h2 (by rw [hzs, h1]) (by decide) h
    refine ⟨v, ba', lo', hk, fun μ w a hinv hp => ?_⟩
    have hys := (hp.get hmy hy e1).str_inv
    have hb : ∀ j (u : Value), (s.data.toList.map fun (b : UInt8) => Value.int .u8 (b.toNat : Int))[j]? = some u → ∃ b : UInt8, s.data.toList[j]? = some b ∧ u = .int .u8 b.toNat := fun j u hu => by
      rw [List.getElem?_map] at hu
      obtain ⟨b, h3, h4⟩ := Option.map_eq_some_iff.1 hu
      exact ⟨b, h3, h4.symm⟩
    have hfc : ∀ w', (Builtin.firstCells 1 (byteInts s).length (a.eval y)).run P w' = .ok (s.data.toList.map fun (b : UInt8) => Value.int .u8 (b.toNat : Int)).toArray w' := fun w' => by
      rw [hys, byteInts_length]
      simp only [Builtin.firstCells, Sem.run_pure]
      congr 1
      apply Array.ext'
      simp
    obtain ⟨cv, w', μ', g1, g2, g3, g4, g5⟩ := hs μ w (a.eval x) (a.eval y) (s.data.toList.map fun (b : UInt8) => Value.int .u8 (b.toNat : Int)) hinv (hp.get hm hx rfl) ⟨.inl htx, fun w => by rw [hys, byteInts_length]; rfl, hfc w, hfc w.drew⟩ (by rw [byteInts_length]; simp)
      ⟨fun j => ((s.data.toList.map fun (b : UInt8) => Value.int .u8 (b.toNat : Int))[j]?).getD undef, fun j e he => by
          simp only [byteInts, List.getElem?_map] at he ⊢
          obtain ⟨b, h3, rfl⟩ := Option.map_eq_some_iff.1 he
          rw [h3]; rfl, fun j e he k u hu => by
          simp only [byteInts, List.getElem?_map] at he hu ⊢
          obtain ⟨b, h3, rfl⟩ := Option.map_eq_some_iff.1 he
          rw [h3] at hu
          cases k with
          | zero =>
            simp [Value.cells] at hu
            subst hu
            refine ⟨rfl, ?_⟩
            rw [Nat.mul_one, Nat.add_zero, h3]; rfl
          | succ k => simp [Value.cells] at hu, fun j e he => by
          simp only [byteInts, List.getElem?_map] at he ⊢
          obtain ⟨b, h3, rfl⟩ := Option.map_eq_some_iff.1 he
          rw [h3]; exact .int _ _⟩ (fun u hu => by
          obtain ⟨b, _, rfl⟩ := List.mem_map.1 hu
          rfl)
    exact ⟨cv, w', μ', .inl (by simp [execOp, ho, resolve, invoke, builtin, g1]), g2, g3, g4, g5⟩
  · exact h.elim

end ops
end Go.Proofs.Ytemfnlidinnniaa.AD

namespace Go.Proofs.Ytemfnlidinnniaa.AD
open Go.MapKept
set_option linter.unusedVariables false
set_option linter.unusedSimpArgs false

section ops
variable {P : Program} {o : Oper} {fr : FR} {ba lo : List Ob} {K : AV → List Ob → List Ob → Prop} {d : Bool}

theorem map_some {α β : Type} {x : Option α} {f : α → β} {y : β} (h : x.map f = some y) : ∃ a, x = some a ∧ f a = y := Option.map_eq_some_iff.1 h

def keyD : Option IntKind → TypeDesc
  | none => .string
  | some k => .int k

theorem keyT_out {t : TypeId} {kk : Option IntKind} (h : keyT P t = some kk) : P.underlying t = some (keyD kk) := by
  unfold keyT at h
  split at h
  · cases h; assumption
  · cases h; assumption
  · cases h

theorem key_is {kk : Option IntKind} {k : PV} (h : keyOk kk k = true) {M : Nat → Prop} {w : World} {v : Value} (hv : VP M w v k) : IsKey (keyD kk) v := by
  unfold keyOk at h
  split at h
  · cases hv; exact trivial
  · rename_i j i n
    cases hv
    exact beq_iff_eq.1 h
  · cases h

theorem sameKey_now {kk : Option IntKind} {a b : PV} (ha : keyOk kk a = true) (hb : keyOk kk b = true) {M : Nat → Prop} {w : World} {x y : Value} (hx : VP M w x a) (hy : VP M w y b) {r : Bool} (h : sameKey a b = some r) : Instr.sameNow (keyD kk) x y = some r := by
  unfold sameKey at h
  split at h
  · rename_i s t
    cases hx; cases hy
    cases h
    cases kk with
    | none =>
      simp only [keyD, Instr.sameNow]
      congr 1
      by_cases e : s = t
      · subst e; rw [decide_eq_true rfl]; exact (bytes_beq s s).2 rfl
      · rw [decide_eq_false e]
        cases hb : (s == t) with
        | true => exact absurd ((bytes_beq s t).1 hb) e
        | false => rfl
    | some j => simp [keyOk] at ha
  · rename_i j1 n j2 m
    cases hx; cases hy
    cases h
    cases kk with
    | none => simp [keyOk] at ha
    | some j =>
      have e1 : j1 = j := beq_iff_eq.1 ha
      have e2 : j2 = j := beq_iff_eq.1 hb
      subst e1; subst e2
      simp [keyD, Instr.sameNow]
      rfl
  · cases h

/-- What was found, and what is told of it. -/
def foundV (z : Value) (r : Option (Nat × Value)) : Value :=
  match r with
  | some (_, v) => v
  | none => z
def FoundR (M : Nat → Prop) (w : World) (q : Option PV) (r : Option (Nat × Value)) : Prop :=
  match q, r with
  | none, none => True
  | some v, some (_, y) => VP M w y v
  | _, _ => False

theorem find_out {kk : Option IntKind} {k : PV} (hk : keyOk kk k = true) {M : Nat → Prop} {w : World} {kv : Value} (hkv : VP M w kv k) : ∀ (es : List (PV × PV)) (l : List MapEntry) (i : Nat) (q : Option PV), l.length = es.length →
    (∀ (j : Nat) (x : MapEntry) (e : PV × PV), l[j]? = some x → es[j]? = some e → VP M w x.key e.1 ∧ VP M w x.val e.2) → mfind kk k es = some q →
    ∃ r : Option (Nat × Value), Instr.findNow (keyD kk) kv l i = some r ∧ FoundR M w q r
  | [], l, i, q, hl, h, hq => by
    obtain rfl : l = [] := List.length_eq_zero_iff.1 hl
    cases hq
    exact ⟨none, rfl, trivial⟩
  | (c, v) :: r, [], i, q, hl, h, hq => by cases hl
  | (c, v) :: r, x :: l, i, q, hl, h, hq => by
    obtain ⟨h1, h2⟩ := h 0 x (c, v) rfl rfl
    simp only [mfind] at hq
    split at hq
    · rename_i e1 e2
      cases hq
      have := sameKey_now hk e1 hkv h1 e2
      exact ⟨some (i, x.val), by simp [Instr.findNow, this], h2⟩
    · rename_i e1 e2
      have := sameKey_now hk e1 hkv h1 e2
      obtain ⟨r', g1, g2⟩ := find_out hk hkv r l (i + 1) q (by simpa using hl) (fun j y e hy he => h (j + 1) y e (by simpa using hy) (by simpa using he)) hq
      exact ⟨r', by simp [Instr.findNow, this, g1], g2⟩
    · cases hq

theorem zero_run {et : TypeId} {z : Value} (h : (P.info? et).bind (·.zero) = some z) (w : World) : (zeroValue et).run P w = .ok z w := by
  obtain ⟨i, h1, h2⟩ := Option.bind_eq_some_iff.1 h
  simp [zeroValue, typeInfo, h1, h2]

theorem s_mkmap {t : TypeId} (ho : o.op = .makeMap t none) (h : opV P d .mkmap fr ba lo K) : Sound1 P o fr ba lo K := by
  simp only [opV, pushK_eq] at h
  refine ⟨_, _, _, h, fun μ w a hi hp => ?_⟩
  obtain ⟨h3, h4, h5⟩ := hi.push (w' := w.alloc (.map #[] 0)) (.map w.heap.size) (.map []) (fun b hb => by cases hb; exact Nat.le_refl _) rfl rfl rfl (by simp) (fun b hb => heap_alloc_old w _ b hb) fun hle =>
    .map _ 0 #[] [] (heap_alloc_new w _) rfl fun j x e hx => by simp at hx
  exact ⟨.map (some w.heap.size), _, _, .inl (by simp [execOp, ho, run_makeMap_plain]), .mapr _ _ h5, h3, h4, rfl⟩

theorem mapr_inv {Γ : Ctx} {w : World} {v : Value} {r : Rf} {m : MI} (h : VA Γ w v (.mapr r)) (hm : Γ.at r = some m) {es : List (PV × PV)} {Γ' : Ctx} (hok : ObOk Γ' w m (.map es)) : ∃ b, m = .map b ∧ v = .map (some b) := by
  cases hok with
  | map b clock xs es _ _ _ =>
    cases h with
    | mapr r b' h => rw [hm] at h; cases h; exact ⟨b, rfl, rfl⟩
    | maprGone v r h _ => rw [hm] at h; cases h

theorem s_look {t kt et : TypeId} {x i : Operand} {ok : Bool} {rx ri : Rv} {kk : Option IntKind} {z : Value} {z' : PV} (ho : o.op = .lookup t x i ok) (ht : P.underlying t = some (.map kt et)) (hk : keyT P kt = some kk) (hz : (P.info? et).bind (·.zero) = some z) (hz' : absZ z = some z')
    (hx : rv x = some rx) (hi : rv i = some ri) (h : opV P d (.look kk z' ok rx ri) fr ba lo K) : Sound1 P o fr ba lo K := by
  have hm : x ∈ o.op.operands.toList := by simp [ho, Op.operands]
  have hmi : i ∈ o.op.operands.toList := by simp [ho, Op.operands]
  have hkd := keyT_out hk
  simp only [opV, evK_eq] at h
  split at h
  · rename_i key e1
    obtain ⟨hko, h⟩ := h
    have fin : ∀ (a : Act) (μ : List MI) (w : World) (r : Option (Nat × Value)) (q : Option PV), VP (blocks μ) w (a.eval i) key → FoundR (blocks μ) w q r →
        (∃ es : Array MapEntry, (match a.eval x with | .map none => es = #[] | .map (some b) => ∃ clock, w.heap[b]? = some (.map es clock) | _ => False) ∧ Instr.findNow (keyD kk) (a.eval i) es.toList 0 = some r) →
        ∃ c, (execOp a.eval o).run P w = .ok (.value c) w ∧ VP (blocks μ) w c (lookV z' ok q) := fun a μ w r q g1 g2 ⟨es, g3, g4⟩ => by
      have hck := fun em => run_checkKey (P := P) (w := w) hkd (key_is hko g1) em 9999
      have hfk := run_findKey (P := P) (w := w) hkd g4
      have hzr := zero_run (P := P) hz w
      have hzv := absZ_sound hz' (blocks μ) w
      have run : (Instr.lookup t (a.eval x) (a.eval i) ok).run P w = .ok (if ok then .tuple #[foundV z r, .bool r.isSome] else foundV z r) w := by
        generalize a.eval x = xv at g3
        split at g3
        · subst g3
          cases r with
          | none => simp [Instr.lookup, run_underlying ht, hck, hfk, hzr, Result.andThen, foundV]
          | some p => simp [Instr.lookup, run_underlying ht, hck, hfk, hzr, Result.andThen, foundV]
        · obtain ⟨clock, g3⟩ := g3
          cases r with
          | none => simp [Instr.lookup, run_underlying ht, Go.MapKept.run_getObj_map g3, hck, hfk, hzr, Result.andThen, foundV]
          | some p => simp [Instr.lookup, run_underlying ht, Go.MapKept.run_getObj_map g3, hck, hfk, hzr, Result.andThen, foundV]
        · exact g3.elim
      refine ⟨_, by simp only [execOp, ho]; rw [Sem.run_bind, run]; rfl, ?_⟩
      have two : ∀ (y : Value) (p : PV) (b : Bool), VP (blocks μ) w y p → VP (blocks μ) w (.tuple #[y, .bool b]) (.tup [p, .bool b]) := fun y p b hy => .tup _ _ rfl fun j u c hu hc => by
        match j, hu, hc with
        | 0, hu, hc => cases hu; cases hc; exact hy
        | 1, hu, hc => cases hu; cases hc; exact .bool b
      cases q <;> cases r <;> cases ok <;> first
        | exact g2.elim
        | exact hzv
        | exact g2
        | exact two _ _ _ hzv
        | exact two _ _ _ g2
    split at h
    · rename_i e2
      refine .quiet _ h fun μ w a hinv hp => ?_
      have g1 := (hp.get hmi hi e1).pv
      have g2 := (hp.get hm hx e2).pv
      have g3 : a.eval x = .map none := by generalize a.eval x = xv at g2; cases g2; rfl
      obtain ⟨c, c1, c2⟩ := fin a μ w none none g1 trivial ⟨#[], by rw [g3], rfl⟩
      exact ⟨c, c1, .p _ _ c2⟩
    · rename_i m e2
      obtain ⟨ob, hob, h⟩ := atK_out _ _ _ h
      cases ob <;> first | exact (show False from h).elim | skip
      rename_i es
      obtain ⟨q, hq, h⟩ := h
      refine .quiet _ h fun μ w a hinv hp => ?_
      have g1 := (hp.get hmi hi e1).pv
      obtain ⟨mi, k1, k2⟩ := hinv.at_l hob
      obtain ⟨b, rfl, g3⟩ := mapr_inv (hp.get hm hx e2) k1 k2
      cases k2 with
      | map _ clock xs _ k3 k4 k5 =>
        obtain ⟨r, r1, r2⟩ := find_out hko g1 es xs.toList 0 q (by simpa using k4) (fun j y e hy he => k5 j y e (by simpa using hy) he) hq
        obtain ⟨c, c1, c2⟩ := fin a μ w r q g1 r2 ⟨xs, by rw [g3]; exact ⟨clock, k3⟩, r1⟩
        exact ⟨c, c1, .p _ _ c2⟩
    · rename_i m e2
      obtain ⟨ob, hob, h⟩ := atK_out _ _ _ h
      cases ob <;> first | exact (show False from h).elim | skip
      rename_i es
      obtain ⟨q, hq, h⟩ := h
      refine .quiet _ h fun μ w a hinv hp => ?_
      have g1 := (hp.get hmi hi e1).pv
      obtain ⟨mi, k1, k2⟩ := hinv.at_b hob
      obtain ⟨b, rfl, g3⟩ := mapr_inv (hp.get hm hx e2) k1 k2
      cases k2 with
      | map _ clock xs _ k3 k4 k5 =>
        obtain ⟨r, r1, r2⟩ := find_out hko g1 es xs.toList 0 q (by simpa using k4) (fun j y e hy he => k5 j y e (by simpa using hy) he) hq
        obtain ⟨c, c1, c2⟩ := fin a μ w r q g1 r2 ⟨xs, by rw [g3]; exact ⟨clock, k3⟩, r1⟩
        exact ⟨c, c1, .p _ _ c2⟩
    · exact h.elim
  · exact h.elim

/-- A map written to. -/
theorem put_out {kk : Option IntKind} {k v : PV} (hk : keyOk kk k = true) {M : Nat → Prop} {w : World} {kv vv : Value} (hkv : VP M w kv k) (hvv : VP M w vv v) : ∀ (es : List (PV × PV)) (l : List MapEntry) (i : Nat) (q : List (PV × PV)), l.length = es.length →
    (∀ (j : Nat) (x : MapEntry) (e : PV × PV), l[j]? = some x → es[j]? = some e → VP M w x.key e.1 ∧ VP M w x.val e.2) → mput kk k v es = some q →
    (Instr.findNow (keyD kk) kv l i = some none ∧ q = es ++ [(k, v)]) ∨
    ∃ (j : Nat) (x : MapEntry), Instr.findNow (keyD kk) kv l i = some (some (i + j, x.val)) ∧ l[j]? = some x ∧ x.key = kv ∧ q = es.set j (k, v)
  | [], l, i, q, hl, h, hq => by
    obtain rfl : l = [] := List.length_eq_zero_iff.1 hl
    cases hq
    exact .inl ⟨rfl, rfl⟩
  | (c, u) :: r, [], i, q, hl, h, hq => by cases hl
  | (c, u) :: r, x :: l, i, q, hl, h, hq => by
    obtain ⟨h1, h2⟩ := h 0 x (c, u) rfl rfl
    simp only [mput] at hq
    split at hq
    · rename_i e1 e2
      cases hq
      have hn := sameKey_now hk e1 hkv h1 e2
      refine .inr ⟨0, x, by simp [Instr.findNow, hn], rfl, ?_, rfl⟩
      obtain ⟨r', h3, h4⟩ := sameNow_of_keys (key_is hk hkv) (key_is e1 h1)
      rw [h3] at hn
      cases hn
      exact (h4.1 rfl).symm
    · rename_i e1 e2
      obtain ⟨q', hq', rfl⟩ := map_some hq
      have hn := sameKey_now hk e1 hkv h1 e2
      rcases put_out hk hkv hvv r l (i + 1) q' (by simpa using hl) (fun j y e hy he => h (j + 1) y e (by simpa using hy) (by simpa using he)) hq' with ⟨g1, rfl⟩ | ⟨j, y, g1, g2, g3, rfl⟩
      · exact .inl ⟨by simp [Instr.findNow, hn, g1], rfl⟩
      · exact .inr ⟨j + 1, y, by simp [Instr.findNow, hn, g1]; omega, by simpa using g2, g3, rfl⟩
    · cases hq

theorem s_mset {t kt et : TypeId} {x i y : Operand} {rx ri ry : Rv} {kk : Option IntKind} (ho : o.op = .mapUpdate t x i y) (ht : P.underlying t = some (.map kt et)) (hk : keyT P kt = some kk)
    (hx : rv x = some rx) (hi : rv i = some ri) (hy : rv y = some ry) (h : opV P d (.mset kk rx ri ry) fr ba lo K) : Sound1 P o fr ba lo K := by
  have hm : x ∈ o.op.operands.toList := by simp [ho, Op.operands]
  have hmi : i ∈ o.op.operands.toList := by simp [ho, Op.operands]
  have hmy : y ∈ o.op.operands.toList := by simp [ho, Op.operands]
  have hkd := keyT_out hk
  simp only [opV, evK_eq] at h
  split at h
  · rename_i key val e1 e2
    obtain ⟨hko, h⟩ := h
    have fin : ∀ (a : Act) (μ : List MI) (w : World) (b clock : Nat) (xs : Array MapEntry) (es q : List (PV × PV)), VP (blocks μ) w (a.eval i) key → VP (blocks μ) w (a.eval y) val → a.eval x = .map (some b) → w.heap[b]? = some (.map xs clock) → xs.size = es.length →
        (∀ (j : Nat) (x : MapEntry) (e : PV × PV), xs[j]? = some x → es[j]? = some e → VP (blocks μ) w x.key e.1 ∧ VP (blocks μ) w x.val e.2) → mput kk key val es = some q →
        ∃ (xs' : Array MapEntry) (clock' : Nat), (execOp a.eval o).run P w = .ok .skip { w with heap := w.heap.setIfInBounds b (.map xs' clock') } ∧ xs'.size = q.length ∧ ∀ (j : Nat) (x : MapEntry) (e : PV × PV), xs'[j]? = some x → q[j]? = some e → VP (blocks μ) w x.key e.1 ∧ VP (blocks μ) w x.val e.2 := fun a μ w b clock xs es q g1 g2 g3 g4 g5 g6 hq => by
      have hck := fun em => run_checkKey (P := P) (w := w) hkd (key_is hko g1) em 9999
      rcases put_out hko g1 g2 es xs.toList 0 q (by simpa using g5) (fun j y e hy he => g6 j y e (by simpa using hy) he) hq with ⟨f1, rfl⟩ | ⟨j, e, f1, f2, f3, rfl⟩
      · have hfk := run_findKey (P := P) (w := w) hkd f1
        refine ⟨xs.push { key := a.eval i, val := a.eval y, born := clock }, clock + 1, ?_, by simp [g5], fun j u e hu he => ?_⟩
        · simp [execOp, ho, g3, Instr.mapUpdate, run_underlying ht, Go.MapKept.run_getObj_map g4, hck, hfk, run_setObj_map _ g4, Result.andThen]
        · rw [Array.getElem?_push] at hu
          by_cases hj : j = xs.size
          · rw [if_pos hj] at hu
            cases hu
            rw [List.getElem?_append_right (by omega), hj, g5, Nat.sub_self] at he
            cases he
            exact ⟨g1, g2⟩
          · rw [if_neg hj] at hu
            rw [List.getElem?_append_left (by have := (Array.getElem?_eq_some_iff.1 hu).1; omega)] at he
            exact g6 j u e hu he
      · have hfk := run_findKey (P := P) (w := w) hkd f1
        have hj : xs[j]? = some e := by simpa using f2
        simp only [Nat.zero_add] at hfk
        refine ⟨xs.modify j fun e => { e with key := a.eval i, val := a.eval y }, clock, ?_, by simp [g5], fun k u e' hu he => ?_⟩
        · simp [execOp, ho, g3, Instr.mapUpdate, run_underlying ht, Go.MapKept.run_getObj_map g4, hck, hfk, hj, f3, run_keyThatStays (key_is hko g1), run_setObj_map _ g4, Result.andThen]
        · rw [Array.getElem?_modify] at hu
          rw [List.getElem?_set] at he
          by_cases hkj : j = k
          · subst hkj
            rw [if_pos rfl] at hu he
            split at he
            · cases he
              rw [hj] at hu
              cases hu
              exact ⟨g1, g2⟩
            · cases he
          · rw [if_neg hkj] at hu he
            exact g6 k u e' hu he
    split at h
    · rename_i m e3
      obtain ⟨ob, hob, h⟩ := atK_out _ _ _ h
      cases ob <;> first | exact (show False from h).elim | skip
      rename_i es
      obtain ⟨q, hq, h⟩ := h
      obtain ⟨hml, h⟩ := setAtK_out _ _ _ _ h
      refine ⟨_, _, _, h, fun μ w a hinv hp => ?_⟩
      have g1 := (hp.get hmi hi e1).pv
      have g2 := (hp.get hmy hy e2).pv
      obtain ⟨mi, k1, k2⟩ := hinv.at_l hob
      obtain ⟨b, rfl, g3⟩ := mapr_inv (hp.get hm hx e3) k1 k2
      have hmi' : μ[ba.length + m]? = some (.map b) := k1
      cases k2 with
      | map _ clock xs _ k3 k4 k5 =>
        obtain ⟨xs', clock', c1, c2, c3⟩ := fin a μ w b clock xs es q g1 g2 g3 k3 k4 k5 hq
        obtain ⟨hs1, hs2⟩ := heap_set (o' := .map xs' clock') k3
        obtain ⟨r1, r2⟩ := hinv.change (w' := { w with heap := w.heap.setIfInBounds b (.map xs' clock') }) (ba' := ba) (lo' := lo.set m (.map q)) hmi' (.refl _)
          (fun b' hb' => .inl hb') rfl rfl rfl (by simp) (fun b' hb' hne => hs2 b' fun e => hne (by rw [e]; rfl)) rfl (by simp) (fun j hj => rfl)
          (fun k hk => by rw [List.getElem?_set_ne (by omega)]) (fun hle o' hlt => by omega) (fun hle k o' hk ho' => by
            have hk' : k = m := by omega
            subst hk'
            rw [List.getElem?_set, if_pos rfl, if_pos hml] at ho'
            cases ho'
            exact .map b clock' xs' q hs1 c2 fun j x e hx he => ⟨(c3 j x e hx he).1.mono hle.stays, (c3 j x e hx he).2.mono hle.stays⟩)
        exact ⟨undef, _, _, .inr ⟨c1, rfl⟩, .p _ _ (.undef _), r1, r2, rfl⟩
    · rename_i m e3
      obtain ⟨ob, hob, h⟩ := atK_out _ _ _ h
      cases ob <;> first | exact (show False from h).elim | skip
      rename_i es
      obtain ⟨q, hq, h⟩ := h
      obtain ⟨hml, h⟩ := setAtK_out _ _ _ _ h
      refine ⟨_, _, _, h, fun μ w a hinv hp => ?_⟩
      have g1 := (hp.get hmi hi e1).pv
      have g2 := (hp.get hmy hy e2).pv
      obtain ⟨mi, k1, k2⟩ := hinv.at_b hob
      obtain ⟨b, rfl, g3⟩ := mapr_inv (hp.get hm hx e3) k1 k2
      have hmi' : μ[m]? = some (.map b) := by
        simp only [Ctx.at] at k1
        rw [if_pos hml] at k1
        exact k1
      cases k2 with
      | map _ clock xs _ k3 k4 k5 =>
        obtain ⟨xs', clock', c1, c2, c3⟩ := fin a μ w b clock xs es q g1 g2 g3 k3 k4 k5 hq
        obtain ⟨hs1, hs2⟩ := heap_set (o' := .map xs' clock') k3
        obtain ⟨r1, r2⟩ := hinv.change (w' := { w with heap := w.heap.setIfInBounds b (.map xs' clock') }) (ba' := ba.set m (.map q)) (lo' := lo) hmi' (.refl _)
          (fun b' hb' => .inl hb') rfl rfl rfl (by simp) (fun b' hb' hne => hs2 b' fun e => hne (by rw [e]; rfl)) (by simp) rfl
          (fun j hj => by rw [List.getElem?_set_ne (fun e => hj e.symm)]) (fun k hk => rfl) (fun hle o' hlt ho' => by
            rw [List.getElem?_set, if_pos rfl, if_pos hml] at ho'
            cases ho'
            exact .map b clock' xs' q hs1 c2 fun j x e hx he => ⟨(c3 j x e hx he).1.mono hle.stays, (c3 j x e hx he).2.mono hle.stays⟩) (fun hle k o' hk => by omega)
        exact ⟨undef, _, _, .inr ⟨c1, rfl⟩, .p _ _ (.undef _), r1, r2, by simp⟩
    · exact h.elim
  · exact h.elim

end ops
end Go.Proofs.Ytemfnlidinnniaa.AD

namespace Go.Proofs.Ytemfnlidinnniaa.AD
set_option linter.unusedVariables false
set_option linter.unusedSimpArgs false

section ops
variable {P : Program} {o : Oper} {fr : FR} {ba lo : List Ob} {K : AV → List Ob → List Ob → Prop} {d : Bool}

theorem part_scalar {t : TypeId} {k : SK} (ht : skOf P t = some k) {xs : Array Value} {off : Nat} {v : Value} {w : World} (h : xs[off]? = some v) : (part t xs off).run P w = .ok v w := by
  refine run_part_none ?_ h
  unfold skOf at ht
  unfold isAggT
  split at ht <;> first | (rename_i h; rw [h]) | cases ht

theorem eqf_out (dp : Nat) {M : Nat → Prop} {w : World} {xs ys : Array Value} : ∀ (fs : List Field) (i : Nat) (ks : List SK) (ca cb : List PV) (q : Bool), plainFields P i fs = some ks → (∀ (j : Nat) (c : PV), ca[j]? = some c → ∃ x, xs[i + j]? = some x ∧ VP M w x c) → (∀ (j : Nat) (c : PV), cb[j]? = some c → ∃ x, ys[i + j]? = some x ∧ VP M w x c) → eqCells ks ca cb = some q →
    (Op.eqFields (dp + 1) xs ys fs).run P w = .ok q w
  | [], i, ks, ca, cb, q, h, ha, hb, he => by
    cases h
    cases ca <;> cases cb <;> first | (cases he; rfl) | (simp [eqCells] at he)
  | f :: fs, i, ks, ca, cb, q, h, ha, hb, he => by
    simp only [plainFields] at h
    split at h
    case isFalse => cases h
    rename_i h12
    obtain ⟨h1, h2⟩ := h12
    split at h
    case h_2 => cases h
    rename_i k ks' h3 h4
    cases h
    have key : ∀ (c e : PV) (ra rb : List PV) (r q' : Bool), ca = c :: ra → cb = e :: rb → (∀ x y, VP M w x c → VP M w y e → (Op.equalIn (dp + 1) f.type x y).run P w = .ok r w) → eqCells ks' ra rb = some q' → q = (r && q') → (Op.eqFields (dp + 1) xs ys (f :: fs)).run P w = .ok q w := fun c e ra rb r q' ea eb g1 g2 g3 => by
      subst ea; subst eb; subst g3
      obtain ⟨x, hx, hvx⟩ := ha 0 c rfl
      obtain ⟨y, hy, hvy⟩ := hb 0 e rfl
      rw [Nat.add_zero, ← h1] at hx hy
      have hpx := part_scalar (w := w) h3 hx
      have hpy := part_scalar (w := w) h3 hy
      have ih := eqf_out dp fs (i + 1) ks' ra rb q' h4 (fun j c hc => by
        obtain ⟨x, hx, hv⟩ := ha (j + 1) c (by simpa using hc)
        exact ⟨x, by rw [← hx]; congr 1; omega, hv⟩) (fun j c hc => by
        obtain ⟨x, hx, hv⟩ := hb (j + 1) c (by simpa using hc)
        exact ⟨x, by rw [← hx]; congr 1; omega, hv⟩) g2
      simp only [Op.eqFields, Sem.run_bind, Sem.run_ite, if_pos h2, hpx, hpy, Result.andThen_ok, g1 x y hvx hvy]
      cases r
      · simp
      · simp [ih]
    rcases ca with _ | ⟨c, ra⟩
    · cases k <;> simp [eqCells] at he
    rcases cb with _ | ⟨e, rb⟩
    · cases k <;> cases c <;> simp [eqCells] at he
    have hu := h3
    unfold skOf at hu
    cases k <;> cases c <;> cases e <;> simp only [eqCells] at he <;> try (cases he; done)
    · rename_i i0 j a k b
      split at he
      case isFalse => cases he
      rename_i hjk
      obtain ⟨rfl, rfl⟩ := hjk
      obtain ⟨q', hq, rfl⟩ := map_some he
      refine key _ _ _ _ (a == b) q' rfl rfl (fun x y hx hy => ?_) hq rfl
      cases hx; cases hy
      split at hu <;> first | cases hu | skip
      rename_i k hk
      exact run_equalIn_int w dp f.type _ _ a b hk
    · rename_i a b
      obtain ⟨q', hq, rfl⟩ := map_some he
      refine key _ _ _ _ (a.toList == b.toList) q' rfl rfl (fun x y hx hy => ?_) hq rfl
      cases hx; cases hy
      split at hu <;> first | cases hu | skip
      rename_i hk
      exact run_equalIn_string w dp f.type a b hk
    · rename_i a b
      obtain ⟨q', hq, rfl⟩ := map_some he
      refine key _ _ _ _ (a == b) q' rfl rfl (fun x y hx hy => ?_) hq rfl
      cases hx; cases hy
      split at hu <;> first | cases hu | skip
      rename_i hk
      exact run_equalIn_bool' w dp f.type a b hk

theorem s_eqs {neg : Bool} {op : BinOp} {t yt : TypeId} {x y : Operand} {rx ry : Rv} {fs : Array Field} {ks : List SK} (ho : o.op = .binOp op t x y yt) (hop : op = if neg then .neq else .eql) (ht : P.underlying t = some (.struct fs)) (hk : plainFields P 0 fs.toList = some ks) (hst : P.stoodInHeld t = false) (hg : P.eqGuardType P.depth t = false)
    (hx : rv x = some rx) (hy : rv y = some ry) (h : opV P d (.eqs neg ks rx ry) fr ba lo K) : Sound1 P o fr ba lo K := by
  simp only [opV, evK_eq] at h
  split at h
  · rename_i a b e1 e2
    obtain ⟨q, hq, h⟩ := h
    have hf : P.fieldsOf t = fs := by unfold Program.fieldsOf; rw [ht]
    refine .quiet _ h fun μ w act hi hp => ⟨_, ?_, VA.bool' _ _ _⟩
    have h1 := (hp.get (by simp [ho, Op.operands]) hx e1).pv
    have h2 := (hp.get (by simp [ho, Op.operands]) hy e2).pv
    generalize hxv : act.eval x = xv at h1
    generalize hyv : act.eval y = yv at h2
    cases h1 with
    | agg xs _ k1 k2 k3 =>
      cases h2 with
      | agg ys _ l1 l2 l3 =>
        have he := eqf_out (P := P) 9998 (M := blocks μ) (w := w) (xs := xs) (ys := ys) fs.toList 0 ks a b q hk (fun j c hc => by
          have hj : j < xs.size := by rw [k1]; exact get_lt hc
          exact ⟨xs[j], by rw [Nat.zero_add]; exact Array.getElem?_eq_getElem hj, k2 j _ c (Array.getElem?_eq_getElem hj) hc⟩) (fun j c hc => by
          have hj : j < ys.size := by rw [l1]; exact get_lt hc
          exact ⟨ys[j], by rw [Nat.zero_add]; exact Array.getElem?_eq_getElem hj, l2 j _ c (Array.getElem?_eq_getElem hj) hc⟩) hq
        have heq : (Op.equalIn 10000 t (.agg xs) (.agg ys)).run P w = .ok q w := by
          rw [run_equalIn_struct w 9999 t xs ys (by rw [hf]; exact ht) hst, hf]
          exact he
        simp only [execOp, ho, Sem.run_bind, hxv, hyv]
        rw [run_eqGuard_agg w op t x y xs ys hg]
        cases neg
        · simp only [Bool.false_eq_true, if_false] at hop; subst hop
          simp only [Result.andThen_ok, run_eql_struct w t xs ys, heq]; rfl
        · simp only [if_true] at hop; subst hop
          simp only [Result.andThen_ok, run_neq_struct w t xs ys, heq]; rfl
  · exact h.elim

theorem s_mk {t e : TypeId} {l c : Operand} {rl rc : Rv} {i : TypeInfo} {z : Value} {z' : PV} (ho : o.op = .makeSlice t l c) (ht : P.underlying t = some (.slice e)) (hi : P.info? e = some i) (hz : i.zero = some z) (hz' : absZ z = some z') (hzs : z.cells.size = i.size) (h0 : 0 < i.size) (hb0 : 0 < i.bytes)
    (hl : rv l = some rl) (hc : rv c = some rc) (h : opV P d (.mk i.size i.bytes z' rl rc) fr ba lo K) : Sound1 P o fr ba lo K := by
  have hml : l ∈ o.op.operands.toList := by simp [ho, Op.operands]
  have hmc : c ∈ o.op.operands.toList := by simp [ho, Op.operands]
  simp only [opV, evK_eq] at h
  split at h
  · rename_i kl l' kc c' e1 e2
    obtain ⟨⟨g1, g2, g3⟩, zs, rfl, h⟩ := h
    rw [pushK_eq] at h
    refine ⟨_, _, _, h, fun μ w a hinv hp => ?_⟩
    have v1 := (hp.get hml hl e1).int_inv
    have v2 := (hp.get hmc hc e2).int_inv
    have g3' : c'.toNat * i.bytes ≤ 70368744177664 := g3
    have hle : c'.toNat ≤ 70368744177664 := Nat.le_trans (Nat.le_mul_of_pos_right _ hb0) g3'
    have hrun := run_make (P := P) w t e i z ht hi hz kl kc l' c' g1 g2 (by
      have : ((c'.toNat * i.bytes : Nat) : Int) ≤ 70368744177664 := Int.ofNat_le.2 g3'
      rw [Int.natCast_mul, Int.toNat_of_nonneg (by omega), Int.mul_comm] at this
      omega) (by omega)
    have hcell : ∀ k, k < c'.toNat * i.size → (madeCells z.cells (c'.toNat * i.size))[k]? = z.cells[k % i.size]? := fun k hk => by
      have hm : k % i.size < z.cells.size := by rw [hzs]; exact Nat.mod_lt _ h0
      unfold madeCells
      rw [Array.getElem?_map, Array.getElem?_range, if_pos hk]
      simp only [Option.map_some, hzs]
      rw [getElem!_pos z.cells _ hm, Array.getElem?_eq_getElem hm]
    have hle2 : l'.toNat ≤ c'.toNat := by omega
    have hzv := fun M w => absZ_sound hz' M w
    have hone : ∀ (j : Nat) (x : Value), z.cells[j]? = some x → x.oneCell' = true := fun j x hx => by
      unfold absZ at hz'
      split at hz'
      · rename_i cs
        obtain ⟨es, h1, _⟩ := map_some hz'
        exact (absPs_sound h1 (fun _ => False) w).2.2 j x (by simpa [Value.cells] using hx)
      · have h1 := (absP_sound hz' (fun _ => False) w).2
        rw [cells_of_oneCell h1] at hx
        cases j with
        | zero => simp at hx; rw [← hx]; exact h1
        | succ j => simp at hx
    obtain ⟨h3, h4, h5⟩ := hinv.push (w' := w.alloc (.cells (madeCells z.cells (c'.toNat * i.size)) e)) (.buf (some w.heap.size) 0 (c'.toNat * i.size)) (.buf 0 i.size (List.replicate l'.toNat z')) (fun b hb => by cases hb; exact Nat.le_refl _) rfl rfl rfl (by simp) (fun b hb => heap_alloc_old w _ b hb) fun hle =>
      .buf _ 0 _ _ _ e _ (fun _ => z) (heap_alloc_new w _) (size_madeCells _ _) (by rw [List.length_replicate]; exact Nat.mul_le_mul_right _ hle2) fun j el he => by
        rw [List.getElem?_replicate] at he
        split at he
        · rename_i hj
          cases he
          refine ⟨hzs, fun k x hx => ⟨hone k x hx, ?_⟩, hzv _ _⟩
          have hk : k < i.size := by rw [← hzs]; exact (Array.getElem?_eq_some_iff.1 hx).1
          have hlt : j * i.size + k < c'.toNat * i.size := by
            have := Nat.mul_le_mul_right i.size (show j + 1 ≤ c'.toNat by omega)
            rw [Nat.add_mul, Nat.one_mul] at this
            omega
          rw [hcell _ hlt, Nat.mul_comm, Nat.mul_add_mod, Nat.mod_eq_of_lt hk]
          exact hx
        · cases he
    refine ⟨_, _, _, .inl (by simp only [execOp, ho, Sem.run_bind, v1, v2, hrun]; rfl), ?_, h3, h4, rfl⟩
    exact .view _ 0 _ _ w.heap.size _ _ h5 hle2 rfl
  · exact h.elim

end ops
end Go.Proofs.Ytemfnlidinnniaa.AD

namespace Go.Proofs.Ytemfnlidinnniaa.AD
set_option linter.unusedVariables false
set_option linter.unusedSimpArgs false

def isCall : IOp → Bool
  | .call _ _ | .callv _ _ | .callE _ _ => true
  | _ => false

section ops
variable {P : Program} {o : Oper} {fr : FR} {ba lo : List Ob} {K : AV → List Ob → List Ob → Prop} {d : Bool}


theorem list2 {α : Type} {xs : Array α} {a b : α} (h : xs.toList = [a, b]) : xs = #[a, b] := by
  apply Array.ext'; simpa using h
theorem list1 {α : Type} {xs : Array α} {a : α} (h : xs.toList = [a]) : xs = #[a] := by
  apply Array.ext'; simpa using h

theorem call_out {i : IOp} {c : Call} (ho : o.op = .call c) (hc : compCall P c = some i) (hn : isCall i = false) (h : opV P d i fr ba lo K) : Sound1 P o fr ba lo K := by
  obtain ⟨callee, args, ats⟩ := c
  unfold compCall at hc
  split at hc
  · rename_i _ _ _ x y s t e1 e2 e3
    simp only at e1 e2 e3
    have f2 := list2 e2
    have f3 := list2 e3
    subst e1; subst f2; subst f3
    split at hc
    · rename_i e he
      split at hc
      · rename_i ti e' x' y' h1 h2 h3 h4
        split at hc
        · rename_i hz
          cases hc
          obtain ⟨z, hz1, hz2⟩ := map_some hz.1
          exact s_app ho he h1 hz1 hz2 hz.2.2 h2 h3 h4 h
        · cases hc
      · rename_i ti x' y' h1 h2 h3 h4
        split at hc
        · rename_i hz
          cases hc
          obtain ⟨z, hz1, hz2⟩ := map_some hz.1
          exact s_appS ho he h1 hz1 hz2 hz.2.1 hz.2.2 h2 h3 h4 h
        · cases hc
      · cases hc
    · cases hc
  · rename_i _ _ _ x t e1 e2 e3
    simp only at e1 e2 e3
    have f2 := list1 e2
    have f3 := list1 e3
    subst e1; subst f2; subst f3
    split at hc
    · rename_i x' h1 h2
      cases hc
      exact s_lenS (ats := #[]) ho h1 h2 h
    · rename_i e x' h1 h2
      cases hc
      exact s_len ho h1 h2 h
    · cases hc
  · rename_i x y e1 e2
    simp only at e1 e2
    have f2 := list2 e2
    subst e1; subst f2
    split at hc
    · rename_i x' y' h1 h2
      cases hc
      exact s_max2 ho h1 h2 h
    · cases hc
  · rename_i x y e1 e2
    simp only at e1 e2
    have f2 := list2 e2
    subst e1; subst f2
    split at hc
    · rename_i x' y' h1 h2
      cases hc
      exact s_min2 ho h1 h2 h
    · cases hc
  · rename_i f e1
    simp only at e1
    subst e1
    split at hc
    · obtain ⟨a, _, rfl⟩ := map_some hc
      cases hn
    · obtain ⟨rs, hrs, rfl⟩ := map_some hc
      simp only [opV, evsK_eq] at h
      rcases allPK_out _ _ _ h with ⟨ps, h1, e, hx, hk⟩ | h
      · refine .quiet _ hk fun μ w a hi hp => ?_
        obtain ⟨a1, a2⟩ := rvs_sound fr (a := a) (w := w) (Γ := ⟨blocks μ, ba.length, μ⟩) hrs (fun x r hm hxr => hp x r (by rw [ho]; simp [Op.operands, Call.operands]; simp at hm; simp [hm]) hxr)
        have hl : (args.map a.eval).size = ps.length := by
          have := congrArg List.length h1
          simp only [List.length_map] at this
          simp
          rw [← this, ← a1]
          simp
        obtain ⟨c, hr, hv⟩ := hx.out (blocks μ) w (args.map a.eval) hl fun j x p hj hpj => by
          have := a2 j x (.p p) (by simpa using hj) (by rw [h1, List.getElem?_map, hpj]; rfl)
          exact this.pv
        exact ⟨c, by simp [execOp, ho, resolve, Act.eval, Deferred.ofValue, invoke, hr], .p _ _ hv⟩
      · exact h.elim
  · obtain ⟨a, _, rfl⟩ := map_some hc
    cases hn
  · cases hc

theorem op_out0 {own : List Nat} {i : IOp} (hc : compO0 P own o = some i) (hn : isCall i = false) (h : opV P d i fr ba lo K) : Sound1 P o fr ba lo K := by
  unfold compO0 at hc
  split at hc
  · rename_i x ho
    obtain ⟨r, hr, rfl⟩ := map_some hc
    exact s_mv (x := x) (by simp [ho, Op.operands]) (fun a w => by simp [execOp, ho]) hr (by simpa only [opV, evK_eq] using h)
  · rename_i x ho
    obtain ⟨r, hr, rfl⟩ := map_some hc
    exact s_mv (x := x) (by simp [ho, Op.operands]) (fun a w => by simp [execOp, ho]) hr (by simpa only [opV, evK_eq] using h)
  · rename_i c a b ho
    split at hc
    · rename_i c' a' b' h1 h2 h3
      cases hc
      exact s_pick ho h1 h2 h3 h
    · cases hc
  · rename_i e ho
    split at hc
    · rename_i ti h1
      split at hc
      · rename_i z h2
        obtain ⟨cs, h3, rfl⟩ := map_some hc
        exact s_alloc ho h1 h2 h3 h
      · cases hc
    · cases hc
  · rename_i e x ho
    obtain ⟨r, hr, rfl⟩ := map_some hc
    exact s_box ho hr h
  · rename_i t parts ho
    split at hc
    · rename_i ti h1
      split at hc
      · rename_i z fields h2 h3
        split at hc
        · rename_i zs places h4 h5
          obtain ⟨ps, h6, rfl⟩ := map_some hc
          exact s_build ho h1 h2 h4 (.inl ⟨fields, places, h3, h5, h6⟩) h
        · cases hc
      · rename_i z n e h2 h3
        split at hc
        · rename_i zs ie h4 h5
          obtain ⟨ps, h6, rfl⟩ := map_some hc
          exact s_build ho h1 h2 h4 (.inr ⟨n, e, ie, h3, h5, h6⟩) h
        · cases hc
      · cases hc
    · cases hc
  · rename_i t len parts ho
    split at hc
    · rename_i e h1
      split at hc
      · rename_i ti h2
        split at hc
        · rename_i z h3
          split at hc
          · rename_i z' ps h4 h5
            split at hc
            · rename_i hz
              cases hc
              exact s_lit ho h1 h2 h3 h4 h5 hz.1 hz.2.1 hz.2.2 h
            · cases hc
          · cases hc
        · cases hc
      · cases hc
    · cases hc
  · rename_i t a ho
    split at hc
    · rename_i n a' h1 h2
      cases hc
      exact s_load ho h1 h2 h
    · cases hc
  · rename_i t a x ho
    split at hc
    · rename_i n a' x' h1 h2 h3
      cases hc
      exact s_store ho h1 h2 h3 h
    · cases hc
  · rename_i x ho
    obtain ⟨r, hr, rfl⟩ := map_some hc
    exact s_nilck ho hr h
  · obtain ⟨r, hr, rfl⟩ := map_some hc
    exact (show False from h).elim
  · rename_i t x ho
    split at hc
    · rename_i fs x' h1 h2
      cases hc
      exact s_mkI ho h1 h2 h
    · cases hc
  · rename_i x s t ho
    split at hc
    · rename_i fs x' h1 h2
      cases hc
      exact s_tas ho h1 h2 h
    · cases hc
  · rename_i op t x y yt ho
    split at hc
    · rename_i k x' y' h1 h2 h3
      cases hc
      exact s_bin ho h2 h3 h
    · rename_i x' y' h1 h2 h3
      cases hc
      exact s_bin ho h2 h3 h
    · rename_i x' y' h1 h2 h3
      split at hc
      · cases hc
        exact s_eqb ho (by simp) h1 h2 h3 h
      · cases hc
        exact s_eqb ho (by simp) h1 h2 h3 h
      · cases hc
    · rename_i fs x' y' h1 h2 h3
      split at hc
      · rename_i h4
        obtain ⟨h5, h6⟩ := h4
        split at hc
        · rename_i ks h4
          cases hc
          exact s_eqs ho (by simp) h1 h4 h5 h6 h2 h3 h
        · rename_i ks h4
          cases hc
          exact s_eqs ho (by simp) h1 h4 h5 h6 h2 h3 h
        · cases hc
      · cases hc
    · rename_i u1 u2 u3 x' h1 h2 h3
      split at hc
      · cases hc
        exact s_isNil ho (by simp) h1 h2 h3 h
      · cases hc
        exact s_isNil ho (by simp) h1 h2 h3 h
      · cases hc
    · rename_i u1 x' h1 h2 h3
      split at hc
      · cases hc
        exact s_isNilI ho (by simp) h1 h2 h3 h
      · cases hc
        exact s_isNilI ho (by simp) h1 h2 h3 h
      · cases hc
    · cases hc
  · rename_i t x ho
    obtain ⟨r, hr, rfl⟩ := map_some hc
    exact s_not ho hr h
  · rename_i t x ho
    obtain ⟨r, hr, rfl⟩ := map_some hc
    exact s_neg ho hr h
  · rename_i s t x ho
    split at hc
    · rename_i j k x' h1 h2 h3
      cases hc
      exact s_conv ho h1 h2 h3 h
    · rename_i x' h1 h2 h3
      cases hc
      exact s_mvS ho h1 h2 h3 h
    · rename_i e x' h1 h2 h3
      split at hc
      · rename_i h4
        cases hc
        exact s_toBytes ho h1 h2 h4 h3 h
      · cases hc
    · rename_i e x' h1 h2 h3
      split at hc
      · rename_i h4
        cases hc
        exact s_ofBytes ho h1 h4 h2 h3 h
      · cases hc
    · cases hc
  · rename_i t x l0 h0 m0 ho
    split at hc
    · rename_i x' rl rh h1 h2 h3 h4 h5
      cases hc
      have : m0 = none := by cases m0 with | none => rfl | some m => obtain ⟨r, _, h6⟩ := map_some h5; cases h6
      subst this
      exact s_cutS ho h1 h2 h3 h4 h
    · rename_i e x' rl rh rm h1 h2 h3 h4 h5
      split at hc
      · rename_i n h6
        cases hc
        exact s_cutL ho h1 h6 h2 h3 h4 h5 h
      · cases hc
    · cases hc
  · rename_i s x f ho
    split at hc
    · rename_i fields x' h1 h2
      split at hc
      · rename_i fd h3
        split at hc
        · rename_i n h4
          split at hc
          · cases hc
          · rename_i h5
            cases hc
            exact s_fieldA ho h1 h3 h4 h5 h2 h
        · cases hc
      · cases hc
    · cases hc
  · rename_i t x f ho
    split at hc
    · rename_i fields x' h1 h2
      split at hc
      · rename_i fd h3
        obtain ⟨n, h4, rfl⟩ := map_some hc
        exact s_fld ho h1 h3 h4 h2 h
      · cases hc
    · cases hc
  · rename_i t x i' ho
    split at hc
    · rename_i e x' i2 h1 h2 h3
      obtain ⟨n, h4, rfl⟩ := map_some hc
      exact s_elemA ho h1 h4 h2 h3 h
    · rename_i len e x' i2 h1 h2 h3
      obtain ⟨n, h4, rfl⟩ := map_some hc
      exact s_arrA ho h1 h4 h2 h3 h
    · cases hc
  · rename_i t x i' ho
    split at hc
    · rename_i len e x' i2 h1 h2 h3
      split at hc
      · rename_i sz n h4 h5
        cases hc
        exact s_idxA ho h1 h4 h5 h2 h3 h
      · cases hc
    · rename_i x' i2 h1 h2 h3
      cases hc
      exact s_idxS ho h1 h2 h3 h
    · cases hc
  · rename_i f first cap ho
    split at hc
    · rename_i as bs h1 h2
      cases hc
      exact s_mkfn ho h1 h2 h
    · cases hc
  · rename_i x i' ho
    obtain ⟨r, hr, rfl⟩ := map_some hc
    exact s_ext ho hr h
  · rename_i c ho
    exact call_out ho hc hn h
  · rename_i t ho
    cases hc
    exact s_mkmap ho h
  · rename_i t l c ho
    split at hc
    · rename_i e l' c' h1 h2 h3
      split at hc
      · rename_i ti h4
        split at hc
        · rename_i z h5
          split at hc
          · rename_i h6
            obtain ⟨z', h7, rfl⟩ := map_some hc
            exact s_mk ho h1 h4 h5 h7 h6.1 h6.2.1 h6.2.2 h2 h3 h
          · cases hc
        · cases hc
      · cases hc
    · cases hc
  · rename_i t x i' ok ho
    split at hc
    · rename_i kt et x' i2 h1 h2 h3
      split at hc
      · rename_i kk z h4 h5
        obtain ⟨z', h6, rfl⟩ := map_some hc
        exact s_look ho h1 h4 h5 h6 h2 h3 h
      · cases hc
    · cases hc
  · rename_i t m k x ho
    split at hc
    · rename_i kt et m' k' x' h1 h2 h3 h4
      obtain ⟨kk, h5, rfl⟩ := map_some hc
      exact s_mset ho h1 h5 h2 h3 h4 h
    · cases hc
  · cases hc

theorem op_out {own : List Nat} {i : IOp} (hc : compO P own o = some i) (hn : isCall i = false) (h : opV P d i fr ba lo K) : Sound1 P o fr ba lo K := by
  have hi := Option.some.inj hc
  cases h0 : compO0 P own o with
  | none => rw [h0] at hi; subst hi; exact (show False from h).elim
  | some j =>
    rw [h0] at hi
    simp only [Option.getD_some] at hi
    rcases markE_out own o j with h1 | ⟨f, a, _, h1⟩ | ⟨sz, rfl, h1⟩ | ⟨f, a, _, h1⟩ | ⟨x, a, _, h1⟩
    rotate_left 3
    · rw [h1] at hi; subst hi; exact (show False from h).elim
    · rw [h1] at hi; subst hi; exact (show False from h).elim
    · have hj : j = i := by rw [← h1]; exact hi
      subst hj
      exact op_out0 h0 hn h
    · rw [h1] at hi; rw [← hi] at hn; cases hn
    · rw [h1] at hi
      subst hi
      simp only [opV, pushK_eq] at h
      obtain ⟨v, ba', lo', ⟨rfl, rfl, rfl⟩, hs⟩ := op_out0 (K := fun v b l => v = .p .nils ∧ b = ba ∧ l = lo) h0 rfl (show opV P d (.mv (.v (.p .nils))) fr ba lo _ from ⟨rfl, rfl, rfl⟩)
      refine ⟨_, _, _, h, fun μ w a hi ho => ?_⟩
      obtain ⟨c, w', μ', hrun, g1, g2, g3, g4⟩ := hs μ w a hi ho
      obtain ⟨k1, k2, k3⟩ := g2.push (w' := w') (.buf none 0 0) (.buf 0 sz []) (fun b hb => by cases hb) rfl rfl rfl (Nat.le_refl _) (fun _ _ => rfl) (fun _ => .buf0 _ _ _)
      have hc : c = .slice none 0 0 := by
        have := g1.pv
        cases this; rfl
      have hv : VA ⟨blocks (μ' ++ [.buf none 0 0]), ba'.length, μ' ++ [.buf none 0 0]⟩ w' c (.view (.l lo'.length) 0 sz 0) := by
        rw [hc]
        exact .view0 _ _ _ 0 k3
      rcases hrun with hrun | ⟨hrun, he⟩
      · exact ⟨c, w', _, .inl hrun, hv, k1, g3.trans k2, rfl⟩
      · rw [hc] at he; cases he

end ops
end Go.Proofs.Ytemfnlidinnniaa.AD

namespace Go.Proofs.Ytemfnlidinnniaa.AD
set_option linter.unusedVariables false
set_option linter.unusedSimpArgs false

theorem closes_get (n0 : Nat) (l : List AV) (j : Nat) : (AV.closes n0 l)[j]? = (l[j]?).map (AV.close n0) := by rw [closes_map, List.getElem?_map]
theorem closes_length (n0 : Nat) (l : List AV) : (AV.closes n0 l).length = l.length := by rw [closes_map, List.length_map]

theorem at_close {M : Nat → Prop} {n0 : Nat} {μ : List MI} {r : Rf} {m : MI} (hn : n0 ≤ μ.length) (h : Ctx.at ⟨M, n0, μ⟩ r = some m) : Ctx.at ⟨M, μ.length, μ⟩ (r.close n0) = some m := by
  cases r with
  | l k =>
    have h' : μ[n0 + k]? = some m := h
    simp only [Rf.close, Ctx.at]
    rw [if_pos (get_lt h')]; exact h'
  | b id =>
    simp only [Rf.close, Ctx.at] at h ⊢
    split at h
    · rw [if_pos (get_lt h)]; exact h
    · cases h

theorem VA.closed {M : Nat → Prop} {n0 : Nat} {μ : List MI} {w : World} {v : Value} {a : AV} (hn : n0 ≤ μ.length) (h : VA ⟨M, n0, μ⟩ w v a) : VA ⟨M, μ.length, μ⟩ w v (a.close n0) := by
  generalize hΓ : (⟨M, n0, μ⟩ : Ctx) = Γ at h
  induction h with
  | p v e h => subst hΓ; rw [AV.close]; exact .p v e h
  | ref r off b h => subst hΓ; rw [AV.close]; exact .ref _ off b (at_close hn h)
  | view0 r g sz n h => subst hΓ; rw [AV.close]; exact .view0 _ g sz n (at_close hn h)
  | view r g sz n b len cap h hl hc => subst hΓ; rw [AV.close]; exact .view _ g sz n b len cap (at_close hn h) hl hc
  | viewOld v r g sz len b g' n h hg h0 => subst hΓ; rw [AV.close]; exact .viewOld v _ g sz len b g' n (at_close hn h) hg h0
  | viewGone v r g sz len h h0 => subst hΓ; rw [AV.close]; exact .viewGone v _ g sz len (at_close hn h) h0
  | elt r g sz n b idx off h => subst hΓ; rw [AV.close]; exact .elt _ g sz n b idx off (at_close hn h)
  | eltOld v r g sz idx off b g' n h hg h0 => subst hΓ; rw [AV.close]; exact .eltOld v _ g sz idx off b g' n (at_close hn h) hg h0
  | eltGone v r g sz idx off h h0 => subst hΓ; rw [AV.close]; exact .eltGone v _ g sz idx off (at_close hn h) h0
  | mapr r b h => subst hΓ; rw [AV.close]; exact .mapr _ b (at_close hn h)
  | maprGone v r h h0 => subst hΓ; rw [AV.close]; exact .maprGone v _ (at_close hn h) h0
  | clos f xs ys as bs h1 h2 _ _ ih1 ih2 =>
    rw [AV.close]
    exact .clos f xs ys _ _ (by rw [closes_length]; exact h1) (by rw [closes_length]; exact h2) (fun j x c hx hc => by
      rw [closes_get] at hc
      obtain ⟨c', hc', rfl⟩ := map_some hc
      exact ih1 j x c' hx hc') (fun j x c hx hc => by
      rw [closes_get] at hc
      obtain ⟨c', hc', rfl⟩ := map_some hc
      exact ih2 j x c' hx hc')
  | agg xs cs h1 _ h3 ih =>
    rw [AV.close]
    exact .agg xs _ (by rw [closes_length]; exact h1) (fun j x c hx hc => by
      rw [closes_get] at hc
      obtain ⟨c', hc', rfl⟩ := map_some hc
      exact ih j x c' hx hc') h3
  | tup xs cs h1 _ ih =>
    rw [AV.close]
    exact .tup xs _ (by rw [closes_length]; exact h1) (fun j x c hx hc => by
      rw [closes_get] at hc
      obtain ⟨c', hc', rfl⟩ := map_some hc
      exact ih j x c' hx hc')

theorem at_low {M : Nat → Prop} {n0 : Nat} {μ : List MI} {r : Rf} {m : MI} (h : Ctx.at ⟨M, n0, μ⟩ r = some m) : r.low n0 := by
  cases r with
  | l k => trivial
  | b id =>
    simp only [Ctx.at] at h
    split at h
    · rename_i hl; exact hl
    · cases h

theorem VA.low {M : Nat → Prop} {n0 : Nat} {μ : List MI} {w : World} {v : Value} {a : AV} (h : VA ⟨M, n0, μ⟩ w v a) : a.Low n0 := by
  generalize hΓ : (⟨M, n0, μ⟩ : Ctx) = Γ at h
  have all : ∀ {xs : Array Value} {cs : List AV}, xs.size = cs.length → (∀ (j : Nat) (x : Value) (c : AV), xs[j]? = some x → cs[j]? = some c → c.Low n0) → ∀ a, a ∈ cs → a.Low n0 := fun {xs cs} hl h a ha => by
    obtain ⟨j, hj⟩ := List.mem_iff_getElem?.1 ha
    have : j < xs.size := by rw [hl]; exact get_lt hj
    exact h j _ a (Array.getElem?_eq_getElem this) hj
  induction h with
  | p v e h => exact .p e
  | ref r off b h => subst hΓ; exact .ref r off (at_low h)
  | view0 r g sz n h => subst hΓ; exact .view r g sz 0 (at_low h)
  | view r g sz n b len cap h hl hc => subst hΓ; exact .view r g sz len (at_low h)
  | viewOld v r g sz len b g' n h hg h0 => subst hΓ; exact .view r g sz len (at_low h)
  | viewGone v r g sz len h h0 => subst hΓ; exact .view r g sz len (at_low h)
  | elt r g sz n b idx off h => subst hΓ; exact .elt r g sz idx off (at_low h)
  | eltOld v r g sz idx off b g' n h hg h0 => subst hΓ; exact .elt r g sz idx off (at_low h)
  | eltGone v r g sz idx off h h0 => subst hΓ; exact .elt r g sz idx off (at_low h)
  | mapr r b h => subst hΓ; exact .mapr r (at_low h)
  | maprGone v r h h0 => subst hΓ; exact .mapr r (at_low h)
  | clos f xs ys as bs h1 h2 _ _ ih1 ih2 => exact .clos f as bs (all h1 ih1) (all h2 ih2)
  | agg xs cs h1 _ h3 ih => exact .agg cs (all h1 ih)
  | tup xs cs h1 _ ih => exact .tup cs (all h1 ih)

theorem lowsL_all {n : Nat} : ∀ {l : List AV}, (∀ a, a ∈ l → a.lowL n = true) → AV.lowsL n l = true
  | [], _ => rfl
  | a :: r, h => by
    simp only [AV.lowsL, Bool.and_eq_true]
    exact ⟨h a (by simp), lowsL_all fun b hb => h b (by simp [hb])⟩
theorem lowsL_mem {n : Nat} : ∀ {l : List AV}, AV.lowsL n l = true → ∀ a, a ∈ l → a.lowL n = true
  | [], _, a, ha => by cases ha
  | b :: r, h, a, ha => by
    simp only [AV.lowsL, Bool.and_eq_true] at h
    cases ha with
    | head => exact h.1
    | tail _ ha => exact lowsL_mem h.2 a ha

theorem at_take_low {M : Nat → Prop} {n0 : Nat} {μ : List MI} {r : Rf} {m : MI} (h : Ctx.at ⟨M, n0, μ.take n0⟩ r = some m) : r.lowL 0 = true := by
  cases r with
  | l k =>
    have h' : (μ.take n0)[n0 + k]? = some m := h
    rw [List.getElem?_take, if_neg (by omega)] at h'
    cases h'
  | b id => rfl

theorem VA.take_low {M : Nat → Prop} {n0 : Nat} {μ : List MI} {w : World} {v : Value} {a : AV} (h : VA ⟨M, n0, μ.take n0⟩ w v a) : a.lowL 0 = true := by
  generalize hΓ : (⟨M, n0, μ.take n0⟩ : Ctx) = Γ at h
  have all : ∀ {xs : Array Value} {cs : List AV}, xs.size = cs.length → (∀ (j : Nat) (x : Value) (c : AV), xs[j]? = some x → cs[j]? = some c → c.lowL 0 = true) → AV.lowsL 0 cs = true := fun {xs cs} hl h => lowsL_all fun a ha => by
    obtain ⟨j, hj⟩ := List.mem_iff_getElem?.1 ha
    have : j < xs.size := by rw [hl]; exact get_lt hj
    exact h j _ a (Array.getElem?_eq_getElem this) hj
  induction h with
  | p v e h => rfl
  | ref r off b h => subst hΓ; simp only [AV.lowL]; exact at_take_low h
  | view0 r g sz n h => subst hΓ; simp only [AV.lowL]; exact at_take_low h
  | view r g sz n b len cap h hl hc => subst hΓ; simp only [AV.lowL]; exact at_take_low h
  | viewOld v r g sz len b g' n h hg h0 => subst hΓ; simp only [AV.lowL]; exact at_take_low h
  | viewGone v r g sz len h h0 => subst hΓ; simp only [AV.lowL]; exact at_take_low h
  | elt r g sz n b idx off h => subst hΓ; simp only [AV.lowL]; exact at_take_low h
  | eltOld v r g sz idx off b g' n h hg h0 => subst hΓ; simp only [AV.lowL]; exact at_take_low h
  | eltGone v r g sz idx off h h0 => subst hΓ; simp only [AV.lowL]; exact at_take_low h
  | mapr r b h => subst hΓ; simp only [AV.lowL]; exact at_take_low h
  | maprGone v r h h0 => subst hΓ; simp only [AV.lowL]; exact at_take_low h
  | clos f xs ys as bs h1 h2 _ _ ih1 ih2 => simp only [AV.lowL, Bool.and_eq_true]; exact ⟨all h1 ih1, all h2 ih2⟩
  | agg xs cs h1 _ h3 ih => simp only [AV.lowL]; exact all h1 ih
  | tup xs cs h1 _ ih => simp only [AV.lowL]; exact all h1 ih

theorem rf_close_id {n0 : Nat} {r : Rf} (h : r.lowL 0 = true) : r.close n0 = r := by
  cases r with
  | l k => simp [Rf.lowL, Nat.blt] at h
  | b id => rfl

/-- From everybody's side back to its own. -/
theorem at_open {M : Nat → Prop} {n0 : Nat} {μ : List MI} {r : Rf} {m : MI} (hl : r.low n0) (h : Ctx.at ⟨M, μ.length, μ⟩ (r.close n0) = some m) : Ctx.at ⟨M, n0, μ⟩ r = some m := by
  cases r with
  | l k =>
    simp only [Rf.close, Ctx.at] at h ⊢
    split at h
    · exact h
    · cases h
  | b id =>
    simp only [Rf.close, Ctx.at] at h ⊢
    have hl' : id < n0 := hl
    rw [if_pos hl']
    split at h
    · exact h
    · cases h

theorem VA.opened {M : Nat → Prop} {n0 : Nat} {μ : List MI} {w : World} {a : AV} (hl : a.Low n0) : ∀ {v : Value}, VA ⟨M, μ.length, μ⟩ w v (a.close n0) → VA ⟨M, n0, μ⟩ w v a := by
  induction hl with
  | p e => intro v h; rw [AV.close] at h; cases h with | p _ _ h => exact .p v e h
  | ref r o hr => intro v h; rw [AV.close] at h; cases h with | ref _ _ b h => exact .ref r o b (at_open hr h)
  | view r g sz len hr =>
    intro v h; rw [AV.close] at h
    cases h with
    | view0 _ _ _ n h => exact .view0 r g sz n (at_open hr h)
    | view _ _ _ n b _ cap h h1 h2 => exact .view r g sz n b len cap (at_open hr h) h1 h2
    | viewOld _ _ _ _ _ b g' n h h1 h2 => exact .viewOld v r g sz len b g' n (at_open hr h) h1 h2
    | viewGone _ _ _ _ _ h h2 => exact .viewGone v r g sz len (at_open hr h) h2
  | elt r g sz i o hr =>
    intro v h; rw [AV.close] at h
    cases h with
    | elt _ _ _ n b _ _ h => exact .elt r g sz n b i o (at_open hr h)
    | eltOld _ _ _ _ _ _ b g' n h h1 h2 => exact .eltOld v r g sz i o b g' n (at_open hr h) h1 h2
    | eltGone _ _ _ _ _ _ h h2 => exact .eltGone v r g sz i o (at_open hr h) h2
  | mapr r hr =>
    intro v h; rw [AV.close] at h
    cases h with
    | mapr _ b h => exact .mapr r b (at_open hr h)
    | maprGone _ _ h h2 => exact .maprGone v r (at_open hr h) h2
  | clos f as bs _ _ ih1 ih2 =>
    intro v h; rw [AV.close] at h
    cases h with
    | clos _ xs ys _ _ h1 h2 h3 h4 =>
      rw [closes_length] at h1 h2
      exact .clos f xs ys as bs h1 h2 (fun j x c hx hc => ih1 c (List.mem_of_getElem? hc) (h3 j x _ hx (by rw [closes_get, hc]; rfl))) (fun j x c hx hc => ih2 c (List.mem_of_getElem? hc) (h4 j x _ hx (by rw [closes_get, hc]; rfl)))
  | agg cs _ ih =>
    intro v h; rw [AV.close] at h
    cases h with
    | agg xs _ h1 h2 h3 =>
      rw [closes_length] at h1
      exact .agg xs cs h1 (fun j x c hx hc => ih c (List.mem_of_getElem? hc) (h2 j x _ hx (by rw [closes_get, hc]; rfl))) h3
  | tup cs _ ih =>
    intro v h; rw [AV.close] at h
    cases h with
    | tup xs _ h1 h2 =>
      rw [closes_length] at h1
      exact .tup xs cs h1 (fun j x c hx hc => ih c (List.mem_of_getElem? hc) (h2 j x _ hx (by rw [closes_get, hc]; rfl)))

theorem close_id {n0 : Nat} {a : AV} (hl : a.Low n0) : a.lowL 0 = true → a.close n0 = a := by
  have all : ∀ {l : List AV}, (∀ a, a ∈ l → a.lowL 0 = true → a.close n0 = a) → AV.lowsL 0 l = true → AV.closes n0 l = l := fun {l} h hl => by
    rw [closes_map]
    conv => rhs; rw [← List.map_id l]
    exact List.map_congr_left fun a ha => h a ha (lowsL_mem hl a ha)
  induction hl with
  | p e => intro _; rw [AV.close]
  | ref r o hr => intro h; simp only [AV.lowL] at h; rw [AV.close, rf_close_id h]
  | view r g sz len hr => intro h; simp only [AV.lowL] at h; rw [AV.close, rf_close_id h]
  | elt r g sz i o hr => intro h; simp only [AV.lowL] at h; rw [AV.close, rf_close_id h]
  | mapr r hr => intro h; simp only [AV.lowL] at h; rw [AV.close, rf_close_id h]
  | clos f as bs _ _ ih1 ih2 => intro h; simp only [AV.lowL, Bool.and_eq_true] at h; rw [AV.close, all ih1 h.1, all ih2 h.2]
  | agg cs _ ih => intro h; simp only [AV.lowL] at h; rw [AV.close, all ih h]
  | tup cs _ ih => intro h; simp only [AV.lowL] at h; rw [AV.close, all ih h]

theorem at_to_take {M : Nat → Prop} {n0 : Nat} {μ : List MI} {r : Rf} {m : MI} (hl : r.lowL 0 = true) (h : Ctx.at ⟨M, n0, μ⟩ r = some m) : Ctx.at ⟨M, n0, μ.take n0⟩ r = some m := by
  cases r with
  | l k => simp [Rf.lowL, Nat.blt] at hl
  | b id =>
    simp only [Ctx.at] at h ⊢
    split at h
    · rename_i hlt; rw [if_pos hlt, List.getElem?_take, if_pos hlt]; exact h
    · cases h

theorem VA.to_take {M : Nat → Prop} {n0 : Nat} {μ : List MI} {w : World} {v : Value} {a : AV} (h : VA ⟨M, n0, μ⟩ w v a) : a.lowL 0 = true → VA ⟨M, n0, μ.take n0⟩ w v a := by
  generalize hΓ : (⟨M, n0, μ⟩ : Ctx) = Γ at h
  induction h with
  | p v e h => subst hΓ; intro _; exact .p v e h
  | ref r off b h => subst hΓ; intro hl; simp only [AV.lowL] at hl; exact .ref r off b (at_to_take hl h)
  | view0 r g sz n h => subst hΓ; intro hl; simp only [AV.lowL] at hl; exact .view0 r g sz n (at_to_take hl h)
  | view r g sz n b len cap h h1 h2 => subst hΓ; intro hl; simp only [AV.lowL] at hl; exact .view r g sz n b len cap (at_to_take hl h) h1 h2
  | viewOld v r g sz len b g' n h hg h0 => subst hΓ; intro hl; simp only [AV.lowL] at hl; exact .viewOld v r g sz len b g' n (at_to_take hl h) hg h0
  | viewGone v r g sz len h h0 => subst hΓ; intro hl; simp only [AV.lowL] at hl; exact .viewGone v r g sz len (at_to_take hl h) h0
  | elt r g sz n b idx off h => subst hΓ; intro hl; simp only [AV.lowL] at hl; exact .elt r g sz n b idx off (at_to_take hl h)
  | eltOld v r g sz idx off b g' n h hg h0 => subst hΓ; intro hl; simp only [AV.lowL] at hl; exact .eltOld v r g sz idx off b g' n (at_to_take hl h) hg h0
  | eltGone v r g sz idx off h h0 => subst hΓ; intro hl; simp only [AV.lowL] at hl; exact .eltGone v r g sz idx off (at_to_take hl h) h0
  | mapr r b h => subst hΓ; intro hl; simp only [AV.lowL] at hl; exact .mapr r b (at_to_take hl h)
  | maprGone v r h h0 => subst hΓ; intro hl; simp only [AV.lowL] at hl; exact .maprGone v r (at_to_take hl h) h0
  | clos f xs ys as bs h1 h2 _ _ ih1 ih2 =>
    intro hl; simp only [AV.lowL, Bool.and_eq_true] at hl
    exact .clos f xs ys as bs h1 h2 (fun j x c hx hc => ih1 j x c hx hc (lowsL_mem hl.1 c (List.mem_of_getElem? hc))) (fun j x c hx hc => ih2 j x c hx hc (lowsL_mem hl.2 c (List.mem_of_getElem? hc)))
  | agg xs cs h1 _ h3 ih => intro hl; simp only [AV.lowL] at hl; exact .agg xs cs h1 (fun j x c hx hc => ih j x c hx hc (lowsL_mem hl c (List.mem_of_getElem? hc))) h3
  | tup xs cs h1 _ ih => intro hl; simp only [AV.lowL] at hl; exact .tup xs cs h1 (fun j x c hx hc => ih j x c hx hc (lowsL_mem hl c (List.mem_of_getElem? hc)))

/-- What holds of the elder ones holds on everybody's side. -/
theorem VA.widen {M : Nat → Prop} {n0 : Nat} {μ : List MI} {w : World} {v : Value} {a : AV} (hn : n0 ≤ μ.length) (h : VA ⟨M, n0, μ.take n0⟩ w v a) : VA ⟨M, μ.length, μ⟩ w v a := by
  have h1 := h.of_take.closed hn
  rwa [close_id h.low h.take_low] at h1

variable {ba lo : List Ob}

theorem flat_length (ba lo : List Ob) : (flat ba lo).length = ba.length + lo.length := by simp [flat]

theorem Inv.flat {μ : List MI} {w : World} (h : Inv μ w ba lo) : Inv μ w (flat ba lo) [] := by
  have hl : μ.length = (AD.flat ba lo).length := by rw [flat_length, h.len]
  have hn : ba.length ≤ μ.length := by rw [h.len]; omega
  refine ⟨by rw [hl]; rfl, h.apart, fun i o ho => ?_, fun k o ho => by simp at ho⟩
  rw [← hl, List.take_length]
  unfold AD.flat at ho
  rcases Nat.lt_or_ge i ba.length with hi | hi
  · rw [List.getElem?_append_left hi] at ho
    obtain ⟨m, h1, h2⟩ := h.bases i o ho
    refine ⟨m, h1, ?_⟩
    cases h2 with
    | cells b xs t cs a1 a2 a3 => exact .cells b xs t cs a1 a2 fun j x c hx hc => ⟨(a3 j x c hx hc).1.widen hn, (a3 j x c hx hc).2⟩
    | loop l r ks cs st p a1 a2 a0 a3 => exact .loop l r ks cs st p a1 a2 a0 fun j t c hj hc => (a3 j t c hj hc).widen hn
    | buf0 g sz n => exact .buf0 g sz n
    | buf b g n sz xs t es c a1 a2 a3 a4 => exact .buf b g n sz xs t es c a1 a2 a3 a4
    | map b clock xs es a1 a2 a3 => exact .map b clock xs es a1 a2 a3
    | gone => exact .gone
  · rw [List.getElem?_append_right hi, List.getElem?_map] at ho
    obtain ⟨o', ho', rfl⟩ := map_some ho
    obtain ⟨m, h1, h2⟩ := h.locs _ o' ho'
    refine ⟨m, by rw [show i = ba.length + (i - ba.length) by omega]; exact h1, ?_⟩
    cases h2 with
    | cells b xs t cs a1 a2 a3 =>
      exact .cells b xs t _ a1 (by rw [closes_length]; exact a2) fun j x c hx hc => by
        rw [closes_get] at hc
        obtain ⟨c', hc', rfl⟩ := map_some hc
        exact ⟨(a3 j x c' hx hc').1.closed hn, (a3 j x c' hx hc').2⟩
    | loop l r ks cs st p a1 a2 a0 a3 =>
      exact .loop l r ks _ st p a1 a2 (by rw [closes_length]; exact a0) fun j t c hj hc => by
        rw [closes_get] at hc
        obtain ⟨c', hc', rfl⟩ := map_some hc
        exact (a3 j t c' hj hc').closed hn
    | buf0 g sz n => exact .buf0 g sz n
    | buf b g n sz xs t es c a1 a2 a3 a4 => exact .buf b g n sz xs t es c a1 a2 a3 a4
    | map b clock xs es a1 a2 a3 => exact .map b clock xs es a1 a2 a3
    | gone => exact .gone

theorem ob_low {Γ : Ctx} {w : World} {m : MI} {n0 : Nat} {M : Nat → Prop} {μ : List MI} (hΓ : Γ = ⟨M, n0, μ⟩) {o : Ob} (h : ObOk Γ w m o) : o.Low n0 := by
  subst hΓ
  cases h with
  | cells b xs t cs a1 a2 a3 =>
    intro a ha
    obtain ⟨j, hj⟩ := List.mem_iff_getElem?.1 ha
    have : j < xs.size := by rw [a2]; exact get_lt hj
    exact (a3 j _ a (Array.getElem?_eq_getElem this) hj).1.low
  | loop l r ks cs st p a1 a2 a0 a3 =>
    intro a ha
    obtain ⟨j, hj⟩ := List.mem_iff_getElem?.1 ha
    have : j < ks.length := by rw [a0]; exact get_lt hj
    exact (a3 j _ a (List.getElem?_eq_getElem this) hj).low
  | _ => trivial
theorem ob_lowB {w : World} {m : MI} {n0 : Nat} {M : Nat → Prop} {μ : List MI} {o : Ob} (h : ObOk ⟨M, n0, μ.take n0⟩ w m o) : o.LowB n0 := by
  cases h with
  | cells b xs t cs a1 a2 a3 =>
    intro a ha
    obtain ⟨j, hj⟩ := List.mem_iff_getElem?.1 ha
    have : j < xs.size := by rw [a2]; exact get_lt hj
    have := (a3 j _ a (Array.getElem?_eq_getElem this) hj).1
    exact ⟨this.low, this.take_low⟩
  | loop l r ks cs st p a1 a2 a0 a3 =>
    intro a ha
    obtain ⟨j, hj⟩ := List.mem_iff_getElem?.1 ha
    have : j < ks.length := by rw [a0]; exact get_lt hj
    have := a3 j _ a (List.getElem?_eq_getElem this) hj
    exact ⟨this.low, this.take_low⟩
  | _ => trivial

/-- Back from everybody's side. -/
theorem Inv.unflat {μ : List MI} {w : World} {ba' lo' : List Ob} {n0 : Nat} (hb : ba'.length = n0) (h : Inv μ w (ba' ++ lo'.map (Ob.close n0)) []) (h1 : ∀ o, o ∈ ba' → o.LowB n0) (h2 : ∀ o, o ∈ lo' → o.Low n0) : Inv μ w ba' lo' := by
  subst hb
  have hl : μ.length = ba'.length + lo'.length := by have := h.len; simpa using this
  have hlen : (ba' ++ lo'.map (Ob.close ba'.length)).length = μ.length := by rw [hl]; simp
  refine ⟨hl, h.apart, fun i o ho => ?_, fun k o ho => ?_⟩
  · obtain ⟨m, g1, g2⟩ := h.bases i o (by rw [List.getElem?_append_left (get_lt ho)]; exact ho)
    rw [hlen, List.take_length] at g2
    refine ⟨m, g1, ?_⟩
    have hlo := h1 o (List.mem_of_getElem? ho)
    cases g2 with
    | cells b xs t cs a1 a2 a3 =>
      exact .cells b xs t cs a1 a2 fun j x c hx hc => ⟨by
        obtain ⟨l1, l2⟩ := hlo c (List.mem_of_getElem? hc)
        have := (a3 j x c hx hc).1
        rw [← close_id l1 l2] at this
        exact (VA.opened l1 this).to_take l2, (a3 j x c hx hc).2⟩
    | loop l r ks cs st p a1 a2 a0 a3 =>
      exact .loop l r ks cs st p a1 a2 a0 fun j t c hj hc => by
        obtain ⟨l1, l2⟩ := hlo c (List.mem_of_getElem? hc)
        have := a3 j t c hj hc
        rw [← close_id l1 l2] at this
        exact (VA.opened l1 this).to_take l2
    | buf0 g sz n => exact .buf0 g sz n
    | buf b g n sz xs t es c a1 a2 a3 a4 => exact .buf b g n sz xs t es c a1 a2 a3 a4
    | map b clock xs es a1 a2 a3 => exact .map b clock xs es a1 a2 a3
    | gone => exact .gone
  · have hk := get_lt ho
    obtain ⟨m, g1, g2⟩ := h.bases (ba'.length + k) (o.close ba'.length) (by rw [List.getElem?_append_right (by omega), List.getElem?_map, Nat.add_sub_cancel_left, ho]; rfl)
    rw [hlen, List.take_length] at g2
    refine ⟨m, g1, ?_⟩
    have hlo := h2 o (List.mem_of_getElem? ho)
    cases o with
    | cells cs =>
      cases g2 with
      | cells b xs t _ a1 a2 a3 =>
        rw [closes_length] at a2
        exact .cells b xs t cs a1 a2 fun j x c hx hc => by
          have := a3 j x (c.close ba'.length) hx (by rw [closes_get, hc]; rfl)
          exact ⟨VA.opened (hlo c (List.mem_of_getElem? hc)) this.1, this.2⟩
    | buf g sz es =>
      cases g2 with
      | buf0 g sz n => exact .buf0 g sz n
      | buf b g n sz xs t es c a1 a2 a3 a4 => exact .buf b g n sz xs t es c a1 a2 a3 a4
    | map es => cases g2 with | map b clock xs es a1 a2 a3 => exact .map b clock xs es a1 a2 a3
    | loop l r ks cs st =>
      cases g2 with
      | loop _ _ _ _ _ p a1 a2 a0 a3 =>
        rw [closes_length] at a0
        exact .loop l r ks cs st p a1 a2 a0 fun j t c hj hc => VA.opened (hlo c (List.mem_of_getElem? hc)) (a3 j t (c.close ba'.length) hj (by rw [closes_get, hc]; rfl))
    | gone => cases g2 with | gone => exact .gone

/-- A call, back on its own side. -/
theorem call_back0 {P : Program} {f : Nat} {args : List AV} {K : AV → List Ob → List Ob → Prop} (h : CallX P f args ba lo K) {μ : List MI} {w : World} {xs : Array Value} (hi : Inv μ w ba lo) (hx : VAs ⟨blocks μ, ba.length, μ⟩ w xs args) :
    Calls P f xs w fun e w' => ∃ v r μ' ba' lo', e = .returned v ∧ VA ⟨blocks μ', ba.length, μ'⟩ w' v r ∧ Inv μ' w' ba' lo' ∧ Le μ w μ' w' ∧ ba'.length = ba.length ∧ K r ba' lo' := by
  have hn : ba.length ≤ μ.length := by rw [hi.len]; omega
  have hfl : (flat ba lo).length = μ.length := by rw [flat_length, hi.len]
  refine (h.out μ w xs hi.flat ⟨by rw [closes_length]; exact hx.1, fun j x a hj ha => ?_⟩).mono fun e w' hw => ?_
  · rw [closes_get] at ha
    obtain ⟨a', ha', rfl⟩ := map_some ha
    rw [hfl]
    exact (hx.2 j x a' hj ha').closed hn
  · obtain ⟨v, r, H', μ', he, ⟨r', ba', lo', rfl, hr, rfl, hbl, hb1, hl1, hk⟩, hinv, hv, hle⟩ := hw
    have hb2 : ∀ o, o ∈ ba' → o.LowB ba.length := fun o ho => by
      rcases hb1 o ho with h1 | h1
      · obtain ⟨j, hj⟩ := List.mem_iff_getElem?.1 h1
        obtain ⟨m, _, g2⟩ := hi.bases j o hj
        exact ob_lowB g2
      · exact h1
    have hl2 : ∀ o, o ∈ lo' → o.Low ba.length := fun o ho => by
      rcases hl1 o ho with h1 | h1
      · obtain ⟨j, hj⟩ := List.mem_iff_getElem?.1 h1
        obtain ⟨m, _, g2⟩ := hi.locs j o hj
        exact ob_low rfl g2
      · exact h1
    have hinv' := hinv.unflat hbl hb2 hl2
    refine ⟨v, r', μ', ba', lo', he, VA.opened hr ?_, hinv', hle, hbl, hk⟩
    have : (ba' ++ lo'.map (Ob.close ba.length)).length = μ'.length := by rw [hinv'.len]; simp
    rw [this] at hv
    exact hv

theorem CallX.to {P : Program} {f : Nat} {args : List AV} {K : AV → List Ob → List Ob → Prop} (h : CallX P f args ba lo K) : CallVC P f args ba lo K :=
  ⟨fun μ w xs hi hx => call_back0 h hi hx⟩

theorem call_back {P : Program} {f : Nat} {args : List AV} {K : AV → List Ob → List Ob → Prop} (h : CallVC P f args ba lo K) {μ : List MI} {w : World} {xs : Array Value} (hi : Inv μ w ba lo) (hx : VAs ⟨blocks μ, ba.length, μ⟩ w xs args) :
    Calls P f xs w fun e w' => ∃ v r μ' ba' lo', e = .returned v ∧ VA ⟨blocks μ', ba.length, μ'⟩ w' v r ∧ Inv μ' w' ba' lo' ∧ Le μ w μ' w' ∧ ba'.length = ba.length ∧ K r ba' lo' := h.out μ w xs hi hx

theorem CallVC.pure {P : Program} {f : Nat} {args : List AV} {ba lo : List Ob} {K : AV → List Ob → List Ob → Prop} {e : PV} (h : callA P f (AV.closes ba.length args) (flat ba lo) (fun r H' => r = .p e ∧ H' = flat ba lo))
    (k : K (.p e) ba lo) : CallVC P f args ba lo K :=
  CallX.to ⟨h.mono fun r H' ⟨h1, h2⟩ => ⟨.p e, ba, lo, by rw [h1, AV.close], .p e, h2, rfl, fun _ h => .inl h, fun _ h => .inl h, k⟩⟩

end Go.Proofs.Ytemfnlidinnniaa.AD

namespace Go.Proofs.Ytemfnlidinnniaa.AD
set_option linter.unusedVariables false
set_option linter.unusedSimpArgs false

def putF (fr : FR) (d : Option Nat) (v : AV) : FR :=
  match d with
  | some t => setF fr t v
  | none => fr

/-- Marks of ranges over functions among the deferred calls. -/
def Marks (B : Nat) (T : List Deferred) (μ : List MI) (w : World) (ds : List Deferred) : Prop :=
  ∃ Ds : List Nat, ds = Ds.map (fun D => { target := .collected D, args := #[] }) ++ T ∧ Ds.Nodup ∧ ∀ D, D ∈ Ds → B ≤ D ∧ ¬ blocks μ D ∧ w.heap[D]? = some (.deferred (some []))
theorem Marks.nil {B : Nat} {T : List Deferred} {μ : List MI} {w : World} : Marks B T μ w T := ⟨[], rfl, List.nodup_nil, fun D h => by cases h⟩
theorem Marks.mono {B : Nat} {T : List Deferred} {μ μ' : List MI} {w w' : World} {ds : List Deferred} (h : Marks B T μ w ds) (hs : Stays (blocks μ) w (blocks μ') w') : Marks B T μ' w' ds := by
  obtain ⟨Ds, h1, h2, h3⟩ := h
  refine ⟨Ds, h1, h2, fun D hD => ?_⟩
  obtain ⟨g1, g2, g3⟩ := h3 D hD
  obtain ⟨k1, k2⟩ := hs.2 D (Array.getElem?_eq_some_iff.1 g3).1 g2
  exact ⟨g1, k1, k2.trans g3⟩

/-- Whatever is called, in a round of the loop ro or in none. -/
abbrev FW (ro : Option Nat) : Fence := { Fence.wide with round := ro }
theorem calls_FW {P : Program} {f : FuncId} {args : Array Value} {w : World} {R : Ending → World → Prop} (ro : Option Nat) (n : Nat) (h : Calls P f args w R) : CallsIn (FW ro) n P f args w R := (callsIn_wide.2 h : CallsIn Fence.wide n P f args w R)

structure Rel (N B : Nat) (T : List Deferred) (μ : List MI) (w : World) (a : Act) (fr : FR) (ba lo : List Ob) : Prop where
  inv : Inv μ w ba lo
  size : a.tmps.size = N
  base : B ≤ w.heap.size
  defers : Marks B T μ w a.defers
  vals : ∀ t, VA ⟨blocks μ, ba.length, μ⟩ w (a.tmps.getD t undef) (getF fr t)

section
variable {P : Program} {N B : Nat} {T : List Deferred} {ro : Option Nat} {nd : Nat} {μ : List MI} {w : World} {a : Act} {fr : FR} {ba lo : List Ob}

theorem Rel.eval (h : Rel N B T μ w a fr ba lo) {x : Operand} {r : Rv} (hr : rv x = some r) : VA ⟨blocks μ, ba.length, μ⟩ w (a.eval x) (evF r fr) := by
  cases r with
  | v e => exact rv_const hr
  | t n =>
    cases x with
    | tmp t => cases hr; exact h.vals _
    | const v => simp only [rv] at hr; obtain ⟨e, _, h2⟩ := map_some hr; cases h2
    | func f => cases hr
    | global g => cases hr

theorem Rel.opnds (h : Rel N B T μ w a fr ba lo) (o : Oper) : Opnds o a μ w ba fr := fun x r _ hr => h.eval hr

theorem Rel.put (h : Rel N B T μ w a fr ba lo) {μ' : List MI} {w' : World} {ba' lo' : List Ob} {d : Option Nat} {c : Value} {v : AV} (hd : ∀ t, d = some t → t < N) (hi : Inv μ' w' ba' lo') (hle : Le μ w μ' w') (hb : ba'.length = ba.length) (hv : VA ⟨blocks μ', ba.length, μ'⟩ w' c v) :
    Rel N B T μ' w' (a.put d c) (putF fr d v) ba' lo' := by
  have old : ∀ t, VA ⟨blocks μ', ba'.length, μ'⟩ w' (a.tmps.getD t undef) (getF fr t) := fun t => by rw [hb]; exact (h.vals t).mono hle.stays hle.above
  cases d with
  | none => exact ⟨hi, h.size, Nat.le_trans h.base hle.stays.1, h.defers.mono hle.stays, old⟩
  | some d =>
    refine ⟨hi, by simp [Act.put, h.size], Nat.le_trans h.base hle.stays.1, h.defers.mono hle.stays, fun t => ?_⟩
    have hlt := hd d rfl
    simp only [putF, get_set, Act.put]
    by_cases e : d = t
    · subst e
      rw [if_pos rfl]
      have : (a.tmps.setIfInBounds d c).getD d undef = c := by simp [h.size, hlt]
      rw [this, hb]; exact hv
    · rw [if_neg e]
      have : (a.tmps.setIfInBounds d c).getD t undef = a.tmps.getD t undef := by simp [Array.getElem?_setIfInBounds_ne e]
      rw [this]; exact old t

theorem splitB_out {b : Bool} {K : Bool → Prop} (h : splitB b K) : K b := h.out

theorem putK_eq (fr : FR) (d : Option Nat) (v : AV) (K : FR → Prop) : putK fr d v K = K (putF fr d v) := by
  cases d
  · rfl
  · exact setK_eq _ _ _ _

/-- What follows an operation. -/
def nextK (P : Program) (d : Bool) (o : IO_) (r : List IO_) (fr : FR) (K : FR → List Ob → List Ob → Prop) (v : AV) (ba lo : List Ob) : Prop :=
  match o.split with
  | false => putK fr o.dst v fun fr => opsV P d r fr ba lo K
  | true => match v with
    | .p (.bool b) => splitB b fun b => putK fr o.dst (.p (.bool b)) fun fr => opsV P d r fr ba lo K
    | _ => False

theorem nextK_out {d : Bool} {o : IO_} {r : List IO_} {K : FR → List Ob → List Ob → Prop} {v : AV} (h : nextK P d o r fr K v ba lo) : opsV P d r (putF fr o.dst v) ba lo K := by
  unfold nextK at h
  split at h
  · rwa [putK_eq] at h
  · split at h
    · have := splitB_out h
      rwa [putK_eq] at this
    · exact h.elim

/-- Not what the guard asks for. -/
inductive Unw : AV → Bool → Prop
  | bool (b : Bool) : Unw (.p (.bool b)) (!b)
  | skip (b : Bool) : Unw (.p (.tup [])) b

theorem VA.skip (Γ : Ctx) (w : World) : VA Γ w undef (.p (.tup [])) := .p _ _ (.tup #[] [] rfl fun j x c h => by simp at h)

theorem VA.unw {Γ : Ctx} {w : World} {v : Value} {a : AV} {b : Bool} (h : VA Γ w v a) (hu : Unw a b) : v ≠ .bool b := by
  cases hu with
  | bool b' => rw [h.bool_inv]; cases b' <;> simp
  | skip =>
    have := h.pv
    cases this with
    | tup xs _ _ _ => simp

/-- An operation with a guard, or without. -/
theorem opsV_cons {d : Bool} {o : IO_} {r : List IO_} {K : FR → List Ob → List Ob → Prop} (h : opsV P d (o :: r) fr ba lo K) :
    ((∀ t b, o.guard = some (t, b) → getF fr t = .p (.bool b)) ∧ opV P d o.op fr ba lo (nextK P d o r fr K)) ∨
    (∃ t b, o.guard = some (t, b) ∧ Unw (getF fr t) b ∧ opsV P d r (putF fr o.dst (.p (.tup []))) ba lo K) := by
  replace h : opsStep P d o (opsV P d r) fr ba lo K := h
  unfold opsStep at h
  split at h
  · rename_i hg
    exact .inl ⟨fun t b e => (by rw [hg] at e; cases e), h⟩
  · rename_i t b hg
    rw [getK_eq] at h
    split at h
    · have e : getF fr t = .p (.bool true) := by assumption
      exact .inl ⟨fun t' b' e' => (by rw [hg] at e'; cases e'; exact e), h⟩
    · have e : getF fr t = .p (.bool false) := by assumption
      exact .inl ⟨fun t' b' e' => (by rw [hg] at e'; cases e'; exact e), h⟩
    · have e : getF fr t = .p (.bool true) := by assumption
      rw [putK_eq] at h
      exact .inr ⟨t, false, hg, by rw [e]; exact .bool true, h⟩
    · have e : getF fr t = .p (.bool false) := by assumption
      rw [putK_eq] at h
      exact .inr ⟨t, true, hg, by rw [e]; exact .bool false, h⟩
    · have e : getF fr t = .p (.tup []) := by assumption
      rw [putK_eq] at h
      exact .inr ⟨t, true, hg, by rw [e]; exact .skip _, h⟩
    · have e : getF fr t = .p (.tup []) := by assumption
      rw [putK_eq] at h
      exact .inr ⟨t, false, hg, by rw [e]; exact .skip _, h⟩
    · exact h.elim

theorem compI_out {own : List Nat} {all : List Oper} {i : Nat} {o : Oper} {io : IO_} (h : compI P N own all i o = some io) :
    (∀ t, o.dst = some t → t < N) ∧ compO P own o = some io.op ∧ io.dst = o.dst ∧ (o.guard = none ∧ io.guard = none ∨ ∃ j b g t, o.guard = some (j, b) ∧ all[j]? = some g ∧ g.dst = some t ∧ io.guard = some (t, b)) := by
  unfold compI at h
  split at h
  · cases h
  · rename_i hd
    have hd' : ∀ t, o.dst = some t → t < N := fun t e => by
      rw [e] at hd
      have h9 : t + 1 ≤ N := by simpa [Nat.blt] using hd
      exact h9
    split at h
    · cases h
    · rename_i op hop
      split at h
      · rename_i hg
        cases h
        exact ⟨hd', hop, rfl, .inl ⟨hg, rfl⟩⟩
      · rename_i j b hg
        split at h
        · rename_i g hj
          split at h
          · rename_i t ht
            cases h
            exact ⟨hd', hop, rfl, .inr ⟨j, b, g, t, hg, hj, ht, rfl⟩⟩
          · cases h
        · cases h

/-- Is an operation wanted? -/
theorem wanted_of {own : List Nat} {all : List Oper} {i : Nat} {o : Oper} {io : IO_} (hc : compI P N own all i o = some io) (h : ∀ t b, io.guard = some (t, b) → a.tmps.getD t undef = .bool b) : Region.wanted o (yielded all.toArray a.tmps) = true := by
  obtain ⟨_, _, _, h1 | ⟨j, b, g, t, h1, h2, h3, h4⟩⟩ := compI_out hc
  · unfold Region.wanted; rw [h1.1]
  · unfold Region.wanted
    rw [h1]
    have hb := h t b h4
    have : a.tmps[t]? = some (.bool b) := by
      cases he : a.tmps[t]? with
      | none => simp [he, undef] at hb
      | some v => simp [he] at hb; rw [hb]
    simp [yielded, h2, h3, this]
theorem unwanted_of {own : List Nat} {all : List Oper} {i : Nat} {o : Oper} {io : IO_} (hc : compI P N own all i o = some io) {t : Nat} {b : Bool} (hg : io.guard = some (t, b)) (hb : a.tmps.getD t undef ≠ .bool b) : Region.wanted o (yielded all.toArray a.tmps) = false := by
  obtain ⟨_, _, _, h1 | ⟨j, b', g, t', h1, h2, h3, h4⟩⟩ := compI_out hc
  · rw [h1.2] at hg; cases hg
  · rw [h4] at hg
    cases hg
    unfold Region.wanted
    rw [h1]
    have h2' : all.toArray[j]? = some g := by simpa using h2
    have : yielded all.toArray a.tmps j ≠ some b := by
      unfold yielded
      rw [h2']
      simp only [Option.bind_some, h3]
      intro e
      split at e
      · rename_i c hc
        cases e
        exact hb (by simp [hc])
      · cases e
    simpa using this

theorem enters_run {f : Nat} (h : enters P f = true) (args : Array Value) (w : World) : (callFunc f args).run P w = .ok (.enter f args) w := by
  unfold enters at h
  split at h
  · rename_i fn hf
    simp only [Bool.and_eq_true, Bool.not_eq_true'] at h
    obtain ⟨h1, h2⟩ := h
    have h3 : ¬ fn.body = none := by intro e; rw [e] at h1; cases h1
    have h4 : ¬ fn.name = "runtime.NumGoroutine" := by simpa using h2
    unfold callFunc
    simp [hf, h3, h4]
  · cases h

theorem isCall_out {own : List Nat} {o : Oper} {i : IOp} (hc : compO P own o = some i) (hn : isCall i = true) : ∃ c i', o.op = .call c ∧ compCall P c = some i' ∧ isCall i' = true ∧ (i' = i ∨ ∃ f a, i' = .call f a ∧ i = .callE f a) := by
  have hi := Option.some.inj hc
  cases h0 : compO0 P own o with
  | none => rw [h0] at hi; subst hi; cases hn
  | some j =>
  rw [h0] at hi
  simp only [Option.getD_some] at hi
  obtain ⟨hm, hnj⟩ : (j = i ∨ ∃ f a, j = .call f a ∧ i = .callE f a) ∧ isCall j = true := by
    rcases markE_out own o j with h1 | ⟨f, a, h2, h1⟩ | ⟨sz, _, h1⟩ | ⟨f, a, _, h1⟩ | ⟨x, a, _, h1⟩
    · rw [h1] at hi
      exact ⟨.inl hi, by rw [hi]; exact hn⟩
    · rw [h1] at hi
      exact ⟨.inr ⟨f, a, h2, hi.symm⟩, by rw [h2]; rfl⟩
    · rw [h1] at hi; rw [← hi] at hn; cases hn
    · rw [h1] at hi; rw [← hi] at hn; cases hn
    · rw [h1] at hi; rw [← hi] at hn; cases hn
  clear hn hi hc
  have hc := h0
  have hn := hnj
  suffices h : ∃ c, o.op = .call c ∧ compCall P c = some j by
    obtain ⟨c, h1, h2⟩ := h
    exact ⟨c, j, h1, h2, hnj, hm⟩
  clear hm h0 hnj
  unfold compO0 at hc
  cases hop : o.op with
  | call c => rw [hop] at hc; exact ⟨c, rfl, hc⟩
  | _ =>
    rw [hop] at hc
    simp only at hc
    repeat' split at hc
    all_goals first
      | (cases hc; done)
      | (cases hc; cases hn; done)
      | contradiction
      | (obtain ⟨_, _, rfl⟩ := map_some hc; cases hn; done)

/-- What is read is no 'defer' statement. -/
theorem not_defer {d : Bool} {own : List Nat} {o : Oper} {i : IOp} {fr : FR} {ba lo : List Ob} {K : AV → List Ob → List Ob → Prop} (hc : compO P own o = some i) (h : opV P d i fr ba lo K) : ∀ c, o.op ≠ .defer c := by
  intro c e
  have h0 : compO0 P own o = none := by unfold compO0; rw [e]
  have hb : i = .bad := by
    unfold compO at hc
    rw [h0] at hc
    exact (Option.some.inj hc).symm
  subst hb
  exact (show False from h)

/-- A call, as an operation. -/
theorem call_op {o : Oper} {i : IOp} {own : List Nat} {K : AV → List Ob → List Ob → Prop} (hc : compO P own o = some i) (hn : isCall i = true) (h : opV P false i fr ba lo K) (hi : Inv μ w ba lo) (hr : Opnds o a μ w ba fr) {next : Act → World → Prop} {Q : Exit → Act → World → Prop}
    (hk : ∀ v r μ' w' ba' lo', VA ⟨blocks μ', ba.length, μ'⟩ w' v r → Inv μ' w' ba' lo' → Le μ w μ' w' → ba'.length = ba.length → K r ba' lo' → next (a.put o.dst v) w') : o.wpIn (FW ro) nd P a w next Q := by
  obtain ⟨c, i', ho, hcc, hn', hii⟩ := isCall_out hc hn
  replace h : opV P false i' fr ba lo K := by
    rcases hii with rfl | ⟨f, a, rfl, rfl⟩
    · exact h
    · exact h
  clear hii hn hc
  have hn := hn'
  obtain ⟨callee, args, ats⟩ := c
  have enter : ∀ (f : Nat) (xs : Array Value) (as : List AV), (execOp a.eval o).run P w = .ok (.enter f xs) w → VAs ⟨blocks μ, ba.length, μ⟩ w xs as → CallVC P f as ba lo K → o.wpIn (FW ro) nd P a w next Q := fun f xs as h1 h2 h3 => by
    unfold Oper.wpIn
    refine ⟨fun _ _ => trivial, ?_⟩
    rw [Oper.semAt_eq _ _ _ (fun c e => by rw [ho] at e; cases e), h1]
    refine ⟨fun e => (by cases e), (calls_FW ro (nd - 1) (call_back h3 hi h2)).mono fun e w' hw => ?_⟩
    obtain ⟨v, r, μ', ba', lo', rfl, g1, g2, g3, g4, g5⟩ := hw
    exact hk v r μ' w' ba' lo' g1 g2 g3 g4 g5
  have argsV : ∀ {rs : List Rv}, rvs args.toList = some rs → VAs ⟨blocks μ, ba.length, μ⟩ w (args.map a.eval) (rs.map fun r => evF r fr) := fun {rs} hrs => by
    obtain ⟨a1, a2⟩ := rvs_sound fr (a := a) (w := w) (Γ := ⟨blocks μ, ba.length, μ⟩) hrs (fun x r hm hxr => hr x r (by rw [ho]; simp [Op.operands, Call.operands]; simp at hm; simp [hm]) hxr)
    exact ⟨by simpa using a1, fun j x c hj hcj => a2 j x c (by simpa using hj) hcj⟩
  unfold compCall at hcc
  simp only at hcc
  split at hcc
  · repeat' split at hcc
    all_goals first
      | (cases hcc; cases hn; done)
      | cases hcc
  · repeat' split at hcc
    all_goals first
      | (cases hcc; cases hn; done)
      | cases hcc
  · repeat' split at hcc
    all_goals first
      | (cases hcc; cases hn; done)
      | cases hcc
  · repeat' split at hcc
    all_goals first
      | (cases hcc; cases hn; done)
      | cases hcc
  · rename_i f
    split at hcc
    · rename_i hen
      obtain ⟨rs, hrs, rfl⟩ := map_some hcc
      simp only [opV, evsK_eq] at h
      refine enter f (args.map a.eval) _ ?_ (argsV hrs) h
      simp [execOp, ho, resolve, Act.eval, Deferred.ofValue, invoke, enters_run hen]
    · obtain ⟨rs, hrs, rfl⟩ := map_some hcc; cases hn
  · rename_i t
    obtain ⟨rs, hrs, rfl⟩ := map_some hcc
    simp only [opV, evK_eq, evsK_eq] at h
    have hv : VA ⟨blocks μ, ba.length, μ⟩ w (a.tmps.getD t undef) (getF fr t) := hr (.tmp t) (.t t) (by rw [ho]; simp [Op.operands, Call.operands]) rfl
    split at h
    · rename_i l e1
      rw [show getF fr t = _ from e1] at hv
      have hp := hv.pv
      generalize hx : a.tmps.getD t undef = x at hp
      cases hp
      obtain ⟨fn, tmps, assign, body, hy, hround⟩ := h.out (nd - 1) μ w _ hi (argsV hrs)
      have hx' : a.eval (.tmp t) = .func (.yield l) #[] #[] := hx
      unfold Oper.wpIn
      refine ⟨fun _ _ => trivial, ?_⟩
      rw [Oper.semAt_eq _ _ _ (fun c e => by rw [ho] at e; cases e)]
      have hrun : (execOp a.eval o).run P w = .ok (.round l fn tmps assign body) w := by
        simp [execOp, ho, resolve, hx', Deferred.ofValue, invoke, hy]
      rw [hrun]
      refine ⟨fun e => (by cases e), RoundIn.mono (F := FW ro) hround fun e w' hw => ?_⟩
      obtain ⟨v, r, μ', ba', lo', rfl, g1, g2, g3, g4, g5⟩ := hw
      exact hk v r μ' w' ba' lo' g1 g2 g3 g4 g5
    · rename_i f e1
      obtain ⟨hen, h⟩ := h
      rw [show getF fr t = _ from e1] at hv
      have hp := hv.pv
      generalize hx : a.tmps.getD t undef = x at hp
      cases hp
      refine enter f (args.map a.eval) _ ?_ (argsV hrs) h
      have hx' : a.eval (.tmp t) = .func (.func f) #[] #[] := hx
      simp [execOp, ho, resolve, hx', Deferred.ofValue, invoke, enters_run hen]
    · rename_i f as bs e1
      obtain ⟨hen, h⟩ := h
      rw [show getF fr t = _ from e1] at hv
      generalize hx : a.tmps.getD t undef = x at hv
      cases hv with
      | clos _ xs ys _ _ h1 h2 h3 h4 =>
        have hx' : a.eval (.tmp t) = .func (.func f) xs ys := hx
        obtain ⟨q1, q2⟩ := argsV hrs
        refine enter f (xs ++ args.map a.eval ++ ys) _ (by simp [execOp, ho, resolve, hx', Deferred.ofValue, invoke, enters_run hen]) ?_ h
        refine ⟨by simp only [Array.size_append, List.length_append, h1, h2, q1], fun j x c hj hcj => ?_⟩
        rw [Array.append_assoc] at hj
        rw [List.append_assoc] at hcj
        rcases Nat.lt_or_ge j as.length with hl | hl
        · rw [Array.getElem?_append_left (by omega)] at hj
          rw [List.getElem?_append_left hl] at hcj
          exact h3 j x c hj hcj
        · rw [Array.getElem?_append_right (by omega), h1] at hj
          rw [List.getElem?_append_right hl] at hcj
          rcases Nat.lt_or_ge (j - as.length) (rs.map fun r => evF r fr).length with hl2 | hl2
          · rw [Array.getElem?_append_left (by rw [q1]; exact hl2)] at hj
            rw [List.getElem?_append_left hl2] at hcj
            exact q2 _ x c hj hcj
          · rw [Array.getElem?_append_right (by rw [q1]; exact hl2), q1] at hj
            rw [List.getElem?_append_right hl2] at hcj
            exact h4 _ x c hj hcj
    · exact h.elim
  · cases hcc

theorem raw_out {M : Nat → Prop} {w : World} {x u : Value} {v : PV} (h : rawV v = some u) (hv : VP M w x v) : x = u := by
  unfold rawV at h
  split at h
  · cases h; cases hv; rfl
  · rename_i k n j m
    cases h
    cases hv with
    | agg xs cs h1 h2 h3 =>
      have hx : xs = #[xs[0]'(by simp at h1; omega), xs[1]'(by simp at h1; omega)] := by
        apply Array.ext
        · simpa using h1
        · intro i hi1 hi2
          match i, hi2 with
          | 0, _ => rfl
          | 1, _ => rfl
      have e0 := h2 0 _ _ (Array.getElem?_eq_getElem (by simp at h1; omega)) rfl
      have e1 := h2 1 _ _ (Array.getElem?_eq_getElem (by simp at h1; omega)) rfl
      rw [hx]
      generalize xs[0]'(by simp at h1; omega) = a at e0
      generalize xs[1]'(by simp at h1; omega) = b at e1
      cases e0; cases e1; rfl
  · cases h
theorem compCall_call {c : Call} {f : Nat} {rs : List Rv} (h : compCall P c = some (.call f rs)) : c.callee = .value (.func f) ∧ rvs c.args.toList = some rs ∧ enters P f = true := by
  unfold compCall at h
  split at h
  all_goals try (repeat' split at h)
  all_goals try (cases h; done)
  all_goals try (obtain ⟨_, h1, h2⟩ := map_some h)
  all_goals try (cases h2; done)
  cases h2
  rename_i h3 h4
  exact ⟨h3, h1, h4⟩
theorem compCall_callv {c : Call} {x : Rv} {rs : List Rv} (h : compCall P c = some (.callv x rs)) : ∃ t, x = .t t ∧ c.callee = .value (.tmp t) ∧ rvs c.args.toList = some rs := by
  unfold compCall at h
  split at h
  all_goals try (repeat' split at h)
  all_goals try (cases h; done)
  all_goals try (obtain ⟨_, h1, h2⟩ := map_some h)
  all_goals try (cases h2; done)
  cases h2
  rename_i h3
  exact ⟨_, rfl, h3, h1⟩
theorem plain_call {o : Oper} {j : IOp} {own : List Nat} (h0 : compO0 P own o = some j) (hj : isCall j = true) (hE : ∀ f a, j ≠ .callE f a) : ∃ c, o.op = .call c ∧ compCall P c = some j := by
  suffices h : ∃ c, o.op = .call c ∧ compCall P c = some j by exact h
  unfold compO0 at h0
  cases hop : o.op with
  | call c => rw [hop] at h0; exact ⟨c, rfl, h0⟩
  | _ =>
    exfalso
    rw [hop] at h0
    simp only at h0
    repeat' split at h0
    all_goals first
      | (cases h0; done)
      | (cases h0; cases hj; done)
      | contradiction
      | (obtain ⟨_, _, rfl⟩ := map_some h0; cases hj; done)

/-- A call that may panic, as an operation. -/
theorem call_opP {o : Oper} {i : IOp} {own : List Nat} {K : AV → List Ob → List Ob → Prop} {X : XV} (hc : compO P own o = some i) (hn : isP i = true) (h : opVP P i fr ba lo K X) (hi : Inv μ w ba lo) (hr : Opnds o a μ w ba fr) {next : Act → World → Prop} {Q : Exit → Act → World → Prop}
    (hk : ∀ v r μ' w' ba' lo', VA ⟨blocks μ', ba.length, μ'⟩ w' v r → Inv μ' w' ba' lo' → Le μ w μ' w' → ba'.length = ba.length → K r ba' lo' → next (a.put o.dst v) w')
    (hx : ∀ ch μ' w' ba' lo', Inv μ' w' ba' lo' → Le μ w μ' w' → ba'.length = ba.length → X ch ba' lo' → Q (.panic ch) a w') : o.wpIn (FW ro) nd P a w next Q := by
  have enter : ∀ (c : Call) (f : Nat) (xs : Array Value) (as : List AV), o.op = .call c → (execOp a.eval o).run P w = .ok (.enter f xs) w → VAs ⟨blocks μ, ba.length, μ⟩ w xs as → CallPV P f as ba lo K X → o.wpIn (FW ro) nd P a w next Q := fun c f xs as ho h1 h2 h3 => by
    unfold Oper.wpIn
    refine ⟨fun _ _ => trivial, ?_⟩
    rw [Oper.semAt_eq _ _ _ (fun c e => by rw [ho] at e; cases e), h1]
    refine ⟨fun e => (by cases e), (calls_FW ro (nd - 1) (h3.out μ w xs hi h2)).mono fun e w' hw => ?_⟩
    rcases hw with ⟨v, r, μ', ba', lo', rfl, g1, g2, g3, g4, g5⟩ | ⟨ch, μ', ba', lo', rfl, g2, g3, g4, g5⟩
    · exact hk v r μ' w' ba' lo' g1 g2 g3 g4 g5
    · exact hx ch μ' w' ba' lo' g2 g3 g4 g5
  have argsV : ∀ {c : Call} {rs : List Rv}, o.op = .call c → rvs c.args.toList = some rs → VAs ⟨blocks μ, ba.length, μ⟩ w (c.args.map a.eval) (rs.map fun r => evF r fr) := fun {c rs} ho hrs => by
    obtain ⟨a1, a2⟩ := rvs_sound fr (a := a) (w := w) (Γ := ⟨blocks μ, ba.length, μ⟩) hrs (fun x r hm hxr => hr x r (by rw [ho]; simp [Op.operands, Call.operands]; simp at hm; simp [hm]) hxr)
    exact ⟨by simpa using a1, fun j x c hj hcj => a2 j x c (by simpa using hj) hcj⟩
  have hi' := Option.some.inj hc
  cases h0 : compO0 P own o with
  | none => rw [h0] at hi'; subst hi'; cases hn
  | some j =>
  rw [h0] at hi'
  simp only [Option.getD_some] at hi'
  rcases markE_out own o j with h1 | ⟨f, as, h2, h1⟩ | ⟨sz, _, h1⟩ | ⟨f, as, h2, h1⟩ | ⟨x, as, h2, h1⟩
  · -- a panic
    rw [h1] at hi'
    subst hi'
    have hthrow : ∃ x r, o.op = .panic x ∧ rv x = some r ∧ j = .throw r := by
      unfold compO0 at h0
      cases hop : o.op with
      | panic x =>
        rw [hop] at h0
        obtain ⟨r, e1, rfl⟩ := map_some h0
        exact ⟨x, r, rfl, e1, rfl⟩
      | call c =>
        exfalso
        rw [hop] at h0
        simp only at h0
        unfold compCall at h0
        repeat' split at h0
        all_goals first
          | (cases h0; done)
          | (cases h0; cases hn; done)
          | (obtain ⟨_, _, rfl⟩ := map_some h0; cases hn; done)
      | _ =>
        exfalso
        rw [hop] at h0
        simp only at h0
        repeat' split at h0
        all_goals first
          | (cases h0; done)
          | (cases h0; cases hn; done)
          | contradiction
          | (obtain ⟨_, _, rfl⟩ := map_some h0; cases hn; done)
    obtain ⟨x, r, ho, hr1, rfl⟩ := hthrow
    simp only [opVP, evK_eq] at h
    split at h
    · rename_i tt v e1
      obtain ⟨u, hu, hxx⟩ := h
      have hv := (hr.get (by simp [ho, Op.operands]) hr1 e1).pv
      have hnn : a.eval x = .iface tt u := by
        generalize a.eval x = y at hv
        cases hv with
        | iface _ y v hv => rw [raw_out hu hv]
      unfold Oper.wpIn
      refine ⟨fun _ _ => trivial, ?_⟩
      rw [Oper.semAt_eq _ _ _ (fun c e => by rw [ho] at e; cases e)]
      have hrun : (execOp a.eval o).run P w = .halt (.panic (.iface tt u)) w := by
        simp [execOp, ho, hnn, Instr.panic, goPanic]
      rw [hrun]
      exact hx _ μ w ba lo hi (.refl _ _) rfl hxx
    · exact h.elim
  · rw [h1] at hi'; subst hi'; cases hn
  · rw [h1] at hi'; subst hi'; cases hn
  · rw [h1] at hi'
    subst hi'
    subst h2
    obtain ⟨c, ho, hcc⟩ := plain_call h0 rfl (fun _ _ e => by cases e)
    obtain ⟨k1, k2, k3⟩ := compCall_call hcc
    simp only [opVP, evsK_eq] at h
    refine enter c f (c.args.map a.eval) _ ho ?_ (argsV ho k2) h
    obtain ⟨callee, args, ats⟩ := c
    simp only at k1
    subst k1
    simp [execOp, ho, resolve, Act.eval, Deferred.ofValue, invoke, enters_run k3]
  · rw [h1] at hi'
    subst hi'
    subst h2
    obtain ⟨c, ho, hcc⟩ := plain_call h0 rfl (fun _ _ e => by cases e)
    obtain ⟨t, rfl, k1, k2⟩ := compCall_callv hcc
    obtain ⟨callee, args, ats⟩ := c
    simp only at k1
    subst k1
    simp only [opVP, evK_eq, evsK_eq] at h
    have hv : VA ⟨blocks μ, ba.length, μ⟩ w (a.tmps.getD t undef) (getF fr t) := hr (.tmp t) (.t t) (by rw [ho]; simp [Op.operands, Call.operands]) rfl
    split at h
    · rename_i f e1
      obtain ⟨hen, h⟩ := h
      rw [show getF fr t = _ from e1] at hv
      have hp := hv.pv
      generalize hx : a.tmps.getD t undef = x at hp
      cases hp
      refine enter _ f (args.map a.eval) _ ho ?_ (argsV ho k2) h
      have hx' : a.eval (.tmp t) = .func (.func f) #[] #[] := hx
      simp [execOp, ho, resolve, hx', Deferred.ofValue, invoke, enters_run hen]
    · rename_i f as bs e1
      obtain ⟨hen, h⟩ := h
      rw [show getF fr t = _ from e1] at hv
      generalize hx : a.tmps.getD t undef = x at hv
      cases hv with
      | clos _ xs ys _ _ h1 h2 h3 h4 =>
        have hx' : a.eval (.tmp t) = .func (.func f) xs ys := hx
        obtain ⟨q1, q2⟩ := argsV ho k2
        refine enter _ f (xs ++ args.map a.eval ++ ys) _ ho (by simp [execOp, ho, resolve, hx', Deferred.ofValue, invoke, enters_run hen]) ?_ h
        refine ⟨by simp only [Array.size_append, List.length_append, h1, h2, q1], fun j x c hj hcj => ?_⟩
        rw [Array.append_assoc] at hj
        rw [List.append_assoc] at hcj
        rcases Nat.lt_or_ge j as.length with hl | hl
        · rw [Array.getElem?_append_left (by omega)] at hj
          rw [List.getElem?_append_left hl] at hcj
          exact h3 j x c hj hcj
        · rw [Array.getElem?_append_right (by omega), h1] at hj
          rw [List.getElem?_append_right hl] at hcj
          rcases Nat.lt_or_ge (j - as.length) (args.map a.eval).size with hl2 | hl2
          · rw [Array.getElem?_append_left hl2] at hj
            rw [List.getElem?_append_left (by rw [← q1]; exact hl2)] at hcj
            exact q2 _ x c hj hcj
          · rw [Array.getElem?_append_right hl2] at hj
            rw [List.getElem?_append_right (by rw [← q1]; exact hl2), ← q1] at hcj
            exact h4 _ x c hj hcj
    · exact h.elim

/-- OPERATIONS IN THEIR ORDER. -/
theorem ops_sound {own : List Nat} {all : List Oper} {Q : Exit → Act → World → Prop} {K : FR → List Ob → List Ob → Prop} : ∀ (l : List Oper) (is : List IO_) (i : Nat), all.drop i = l → compOps P N own all i l = some is → ∀ {fr : FR} {ba lo : List Ob}, opsV P false is fr ba lo K →
    ∀ {μ : List MI} {w : World} {a : Act}, Rel N B T μ w a fr ba lo → (∀ fr' ba' lo' μ' w' a', K fr' ba' lo' → Rel N B T μ' w' a' fr' ba' lo' → Le μ w μ' w' → ba'.length = ba.length → Q .normal a' w') → wpOpsIn (FW ro) nd P all.toArray Q (List.range' i l.length) a w
  | [], is, i, _, hc, fr, ba, lo, h, μ, w, a, hr, hq => by
    cases hc
    exact hq fr ba lo μ w a h hr (.refl _ _) rfl
  | o :: l, is, i, hd, hc, fr, ba, lo, h, μ, w, a, hr, hq => by
    simp only [compOps] at hc
    split at hc
    · rename_i io ios hio hios
      cases hc
      have hgo : all[i]? = some o := by
        have : (all.drop i)[0]? = some o := by rw [hd]; rfl
        rwa [List.getElem?_drop] at this
      have hd' : all.drop (i + 1) = l := by
        have : all.drop (i + 1) = (all.drop i).drop 1 := by rw [List.drop_drop]
        rw [this, hd]; rfl
      obtain ⟨c1, c2, c3, c4⟩ := compI_out hio
      have rest : ∀ {v : AV} {c : Value} {μ' : List MI} {w' : World} {ba' lo' : List Ob}, VA ⟨blocks μ', ba.length, μ'⟩ w' c v → Inv μ' w' ba' lo' → Le μ w μ' w' → ba'.length = ba.length → opsV P false ios (putF fr io.dst v) ba' lo' K →
          wpOpsIn (FW ro) nd P all.toArray Q (List.range' (i + 1) l.length) (a.put o.dst c) w' := fun {v c μ' w' ba' lo'} g1 g2 g3 g4 g5 => by
        rw [c3] at g5
        exact ops_sound l ios (i + 1) hd' hios g5 (hr.put c1 g2 g3 g4 g1) fun fr' ba'' lo'' μ'' w'' a' k1 k2 k3 k4 => hq fr' ba'' lo'' μ'' w'' a' k1 k2 (g3.trans k3) (k4.trans g4)
      simp only [List.length_cons, List.range'_succ, wpOpsIn]
      have hgo' : all.toArray[i]? = some o := by simpa using hgo
      simp only [hgo']
      rcases opsV_cons h with ⟨hg, h⟩ | ⟨t, b, hg, hv, h⟩
      · rw [if_pos (wanted_of hio fun t b e => by have hv := hr.vals t; rw [hg t b e] at hv; exact hv.bool_inv)]
        cases hn : isCall io.op with
        | true => exact call_op c2 hn h hr.inv (hr.opnds o) fun v r μ' w' ba' lo' g1 g2 g3 g4 g5 => rest g1 g2 g3 g4 (nextK_out g5)
        | false =>
          obtain ⟨v, ba', lo', hk, hgv⟩ := op_out c2 hn h
          obtain ⟨c, w', μ', hrun, g1, g2, g3, g4⟩ := hgv μ w a hr.inv (hr.opnds o)
          unfold Oper.wpIn
          refine ⟨fun _ _ => trivial, ?_⟩
          rw [Oper.semAt_eq _ _ _ (not_defer c2 h)]
          rcases hrun with hrun | ⟨hrun, rfl⟩
          · rw [hrun, Oper.uponIn_value]; exact rest g1 g2 g3 g4 (nextK_out hk)
          · rw [hrun, Oper.uponIn_skip]; exact rest g1 g2 g3 g4 (nextK_out hk)
      · rw [if_neg (by rw [unwanted_of hio hg ((hr.vals t).unw hv)]; simp)]
        exact ⟨fun _ _ => trivial, rest (.skip _ _) hr.inv (.refl _ _) rfl h⟩
    · cases hc

/-- Operations in their order, of which some may panic. -/
def nextPK (P : Program) (o : IO_) (r : List IO_) (fr : FR) (K : FR → List Ob → List Ob → Prop) (X : XV) (v : AV) (ba lo : List Ob) : Prop :=
  match o.split with
  | false => putK fr o.dst v fun fr => opsPV P r fr ba lo K X
  | true => match v with
    | .p (.bool b) => splitB b fun b => putK fr o.dst (.p (.bool b)) fun fr => opsPV P r fr ba lo K X
    | _ => False
theorem nextPK_out {o : IO_} {r : List IO_} {K : FR → List Ob → List Ob → Prop} {X : XV} {v : AV} (h : nextPK P o r fr K X v ba lo) : opsPV P r (putF fr o.dst v) ba lo K X := by
  unfold nextPK at h
  split at h
  · rwa [putK_eq] at h
  · split at h
    · have := splitB_out h
      rwa [putK_eq] at this
    · exact h.elim
theorem opsPV_cons {o : IO_} {r : List IO_} {K : FR → List Ob → List Ob → Prop} {X : XV} (h : opsPV P (o :: r) fr ba lo K X) :
    ((∀ t b, o.guard = some (t, b) → getF fr t = .p (.bool b)) ∧ opVP P o.op fr ba lo (nextPK P o r fr K X) X) ∨
    (∃ t b, o.guard = some (t, b) ∧ Unw (getF fr t) b ∧ opsPV P r (putF fr o.dst (.p (.tup []))) ba lo K X) := by
  replace h : opsPStep P o (opsPV P r) fr ba lo K X := h
  unfold opsPStep at h
  split at h
  · rename_i hg
    exact .inl ⟨fun t b e => (by rw [hg] at e; cases e), h⟩
  · rename_i t b hg
    rw [getK_eq] at h
    split at h
    · have e : getF fr t = .p (.bool true) := by assumption
      exact .inl ⟨fun t' b' e' => (by rw [hg] at e'; cases e'; exact e), h⟩
    · have e : getF fr t = .p (.bool false) := by assumption
      exact .inl ⟨fun t' b' e' => (by rw [hg] at e'; cases e'; exact e), h⟩
    · have e : getF fr t = .p (.bool true) := by assumption
      rw [putK_eq] at h
      exact .inr ⟨t, false, hg, by rw [e]; exact .bool true, h⟩
    · have e : getF fr t = .p (.bool false) := by assumption
      rw [putK_eq] at h
      exact .inr ⟨t, true, hg, by rw [e]; exact .bool false, h⟩
    · have e : getF fr t = .p (.tup []) := by assumption
      rw [putK_eq] at h
      exact .inr ⟨t, true, hg, by rw [e]; exact .skip _, h⟩
    · have e : getF fr t = .p (.tup []) := by assumption
      rw [putK_eq] at h
      exact .inr ⟨t, false, hg, by rw [e]; exact .skip _, h⟩
    · exact h.elim
theorem opVP_plain {i : IOp} (hn : isP i = false) {K : AV → List Ob → List Ob → Prop} {X : XV} (h : opVP P i fr ba lo K X) : opV P false i fr ba lo K := by
  cases i <;> first | exact h | cases hn

theorem get_drop (ds : List Nat) : ∀ (fr : FR) (t : Nat), getF (dropF ds fr) t = if memN t ds = true then .p .undef else getF fr t
  | [], t => by simp [dropF, getF]
  | (u, x) :: r, t => by
    have ih := get_drop ds r t
    unfold dropF
    cases hu : memN u ds with
    | true =>
      simp only [cond_true]
      rw [ih]
      by_cases ht : memN t ds = true
      · rw [if_pos ht, if_pos ht]
      · rw [if_neg ht, if_neg ht, getF]
        cases hb : Nat.beq u t with
        | true => rw [Nat.eq_of_beq_eq_true hb] at hu; exact absurd hu ht
        | false => rfl
    | false =>
      simp only [cond_false, getF]
      cases hb : Nat.beq u t with
      | true => rw [Nat.eq_of_beq_eq_true hb] at hu; simp [hu]
      | false => simp only [cond_false]; exact ih
theorem Rel.weak {N B : Nat} {T : List Deferred} {μ : List MI} {w : World} {a : Act} {fr fr' : FR} {ba lo : List Ob} (h : Rel N B T μ w a fr ba lo) (k : ∀ t, getF fr' t = getF fr t ∨ getF fr' t = .p .undef) : Rel N B T μ w a fr' ba lo :=
  ⟨h.inv, h.size, h.base, h.defers, fun t => by
    rcases k t with e | e
    · rw [e]; exact h.vals t
    · rw [e]; exact .p _ _ (.undef _)⟩
theorem drop_rest (o : IO_) (r : List IO_) (fr : FR) (v : AV) (t : Nat) : getF (dropF (dstsI (o :: r)) fr) t = getF (dropF (dstsI r) (putF fr o.dst v)) t ∨ getF (dropF (dstsI (o :: r)) fr) t = .p .undef := by
  rw [get_drop, get_drop]
  cases hd : o.dst with
  | none =>
    have e : dstsI (o :: r) = dstsI r := by simp [dstsI, hd]
    rw [e]; exact .inl rfl
  | some d =>
    have e : dstsI (o :: r) = d :: dstsI r := by simp [dstsI, hd]
    rw [e]
    by_cases hdt : d = t
    · right
      rw [if_pos (by subst hdt; simp [memN])]
    · left
      have hm : memN t (d :: dstsI r) = memN t (dstsI r) := by
        have hb : Nat.beq d t = false := by rw [Bool.eq_false_iff]; exact fun e => hdt (Nat.eq_of_beq_eq_true e)
        rw [memN, hb]; rfl
      rw [hm]
      simp only [putF]
      rw [get_set, if_neg hdt]

theorem pops_sound {own : List Nat} {all : List Oper} {Q : Exit → Act → World → Prop} {K : FR → List Ob → List Ob → Prop} {X : XV} : ∀ (l : List Oper) (is : List IO_) (i : Nat), all.drop i = l → compOps P N own all i l = some is → ∀ {fr : FR} {ba lo : List Ob}, opsPV P is fr ba lo K X →
    ∀ {μ : List MI} {w : World} {a : Act}, Rel N B T μ w a fr ba lo → (∀ fr' ba' lo' μ' w' a', K fr' ba' lo' → Rel N B T μ' w' a' fr' ba' lo' → Le μ w μ' w' → ba'.length = ba.length → Q .normal a' w') →
      (∀ ch ba' lo' μ' w' a', X ch ba' lo' → Rel N B T μ' w' a' (dropF (dstsI is) fr) ba' lo' → Le μ w μ' w' → ba'.length = ba.length → Q (.panic ch) a' w') → wpOpsIn (FW ro) nd P all.toArray Q (List.range' i l.length) a w
  | [], is, i, _, hc, fr, ba, lo, h, μ, w, a, hr, hq, hx => by
    cases hc
    exact hq fr ba lo μ w a h hr (.refl _ _) rfl
  | o :: l, is, i, hd, hc, fr, ba, lo, h, μ, w, a, hr, hq, hx => by
    simp only [compOps] at hc
    split at hc
    · rename_i io ios hio hios
      cases hc
      have hgo : all[i]? = some o := by
        have : (all.drop i)[0]? = some o := by rw [hd]; rfl
        rwa [List.getElem?_drop] at this
      have hd' : all.drop (i + 1) = l := by
        have : all.drop (i + 1) = (all.drop i).drop 1 := by rw [List.drop_drop]
        rw [this, hd]; rfl
      obtain ⟨c1, c2, c3, c4⟩ := compI_out hio
      have rest : ∀ {v : AV} {c : Value} {μ' : List MI} {w' : World} {ba' lo' : List Ob}, VA ⟨blocks μ', ba.length, μ'⟩ w' c v → Inv μ' w' ba' lo' → Le μ w μ' w' → ba'.length = ba.length → opsPV P ios (putF fr io.dst v) ba' lo' K X →
          wpOpsIn (FW ro) nd P all.toArray Q (List.range' (i + 1) l.length) (a.put o.dst c) w' := fun {v c μ' w' ba' lo'} g1 g2 g3 g4 g5 => by
        rw [c3] at g5
        exact pops_sound l ios (i + 1) hd' hios g5 (hr.put c1 g2 g3 g4 g1) (fun fr' ba'' lo'' μ'' w'' a' k1 k2 k3 k4 => hq fr' ba'' lo'' μ'' w'' a' k1 k2 (g3.trans k3) (k4.trans g4))
          fun ch ba'' lo'' μ'' w'' a' k1 k2 k3 k4 => hx ch ba'' lo'' μ'' w'' a' k1 (k2.weak fun t => by rw [← c3]; exact drop_rest io ios fr v t) (g3.trans k3) (k4.trans g4)
      simp only [List.length_cons, List.range'_succ, wpOpsIn]
      have hgo' : all.toArray[i]? = some o := by simpa using hgo
      simp only [hgo']
      rcases opsPV_cons h with ⟨hg, h⟩ | ⟨t, b, hg, hv, h⟩
      · rw [if_pos (wanted_of hio fun t b e => by have hv := hr.vals t; rw [hg t b e] at hv; exact hv.bool_inv)]
        cases hp : isP io.op with
        | true =>
          refine call_opP c2 hp h hr.inv (hr.opnds o) (fun v r μ' w' ba' lo' g1 g2 g3 g4 g5 => rest g1 g2 g3 g4 (nextPK_out g5)) fun ch μ' w' ba' lo' g2 g3 g4 g5 => hx ch ba' lo' μ' w' a g5 ?_ g3 g4
          have := hr.put (d := none) (v := .p .undef) (c := undef) (fun t e => by cases e) g2 g3 g4 (.p _ _ (.undef _))
          exact this.weak fun t => by
            rw [get_drop]
            split
            · exact .inr rfl
            · exact .inl rfl
        | false =>
        replace h := opVP_plain hp h
        cases hn : isCall io.op with
        | true => exact call_op c2 hn h hr.inv (hr.opnds o) fun v r μ' w' ba' lo' g1 g2 g3 g4 g5 => rest g1 g2 g3 g4 (nextPK_out g5)
        | false =>
          obtain ⟨v, ba', lo', hk, hgv⟩ := op_out c2 hn h
          obtain ⟨c, w', μ', hrun, g1, g2, g3, g4⟩ := hgv μ w a hr.inv (hr.opnds o)
          unfold Oper.wpIn
          refine ⟨fun _ _ => trivial, ?_⟩
          rw [Oper.semAt_eq _ _ _ (not_defer c2 h)]
          rcases hrun with hrun | ⟨hrun, rfl⟩
          · rw [hrun, Oper.uponIn_value]; exact rest g1 g2 g3 g4 (nextPK_out hk)
          · rw [hrun, Oper.uponIn_skip]; exact rest g1 g2 g3 g4 (nextPK_out hk)
      · rw [if_neg (by rw [unwanted_of hio hg ((hr.vals t).unw hv)]; simp)]
        exact ⟨fun _ _ => trivial, rest (.skip _ _) hr.inv (.refl _ _) rfl h⟩
    · cases hc

end
end Go.Proofs.Ytemfnlidinnniaa.AD

namespace Go.Proofs.Ytemfnlidinnniaa.AD
set_option linter.unusedVariables false
set_option linter.unusedSimpArgs false

/-! Readers: what is asked is asked of one thing. -/

theorem dropK_in {α : Type} : ∀ (n : Nat) (l : List α) (k : List α → Prop), n ≤ l.length → k (l.drop n) → dropK n l k
  | 0, l, k, _, h => h
  | n + 1, [], k, h, _ => absurd h (by simp)
  | n + 1, x :: r, k, h, h2 => dropK_in n r k (by simpa using h) h2
theorem atK_in {α : Type} : ∀ (n : Nat) (l : List α) (k : α → Prop) (x : α), l[n]? = some x → k x → atK n l k
  | 0, [], k, x, h, _ => by simp at h
  | _ + 1, [], k, x, h, _ => by simp at h
  | 0, y :: r, k, x, h, h2 => by simp at h; subst h; exact h2
  | n + 1, y :: r, k, x, h, h2 => atK_in n r k x (by simpa using h) h2
theorem spliceK_in {α : Type} : ∀ (n : Nat) (vs l : List α) (k : List α → Prop), n + vs.length ≤ l.length → k (l.take n ++ vs ++ l.drop (n + vs.length)) → spliceK n vs l k
  | 0, [], [], k, _, h => by simpa [spliceK] using h
  | 0, v :: vs, [], k, h, _ => by simp at h
  | n + 1, vs, [], k, h, _ => by simp at h
  | 0, [], x :: r, k, _, h => by simpa [spliceK] using h
  | 0, v :: vs, x :: r, k, h, h2 => spliceK_in 0 vs r _ (by simp at h ⊢; omega) (by simpa [Nat.add_comm] using h2)
  | n + 1, vs, x :: r, k, h, h2 => spliceK_in n vs r _ (by simp at h ⊢; omega) (by
      have e : n + 1 + vs.length = (n + vs.length) + 1 := by omega
      rw [e] at h2
      simpa using h2)
theorem setAtK_in {α : Type} : ∀ (n : Nat) (l : List α) (v : α) (k : List α → Prop), n < l.length → k (l.set n v) → setAtK n l v k
  | 0, [], v, k, h, _ => by simp at h
  | _ + 1, [], v, k, h, _ => by simp at h
  | 0, x :: r, v, k, _, h => h
  | n + 1, x :: r, v, k, h, h2 => setAtK_in n r v _ (by simpa using h) h2

theorem atK_ext {α : Type} {n : Nat} {l X : List α} {k : α → Prop} (h : atK n l k) : atK n (l ++ X) k := by
  obtain ⟨x, h1, h2⟩ := atK_out n l k h
  exact atK_in _ _ _ x (by rw [List.getElem?_append_left (get_lt h1)]; exact h1) h2

theorem allPK_map : ∀ (ps : List PV) (k : List PV → Prop) (e : Prop), allPK (ps.map AV.p) k e = k ps
  | [], k, e => rfl
  | p :: r, k, e => allPK_map r _ _

theorem allPK_pt : ∀ (cs : List AV), (∃ ps, cs = ps.map AV.p ∧ ∀ (k : List PV → Prop) (e : Prop), allPK cs k e = k ps) ∨ ∀ (k : List PV → Prop) (e : Prop), allPK cs k e = e
  | [] => .inl ⟨[], rfl, fun k e => rfl⟩
  | a :: r => by
    cases a with
    | p c =>
      rcases allPK_pt r with ⟨ps, h1, h2⟩ | h
      · exact .inl ⟨c :: ps, by rw [h1]; rfl, fun k e => h2 _ _⟩
      · exact .inr fun k e => h _ _
    | _ => exact .inr fun k e => rfl
theorem mkAggK_pt (cs : List AV) : ∃ a, ∀ k, mkAggK cs k = k a := by
  rcases allPK_pt cs with ⟨ps, h1, h2⟩ | h
  · exact ⟨_, fun k => h2 _ _⟩
  · exact ⟨_, fun k => h _ _⟩
theorem scalarsK_pt : ∀ (cs : List AV) (k : List AV → Prop), scalarsK cs k → ∀ k' : List AV → Prop, k' cs → scalarsK cs k'
  | [], k, h, k', h2 => h2
  | a :: r, k, h, k', h2 => by
    simp only [scalarsK] at h ⊢
    split at h
    · exact scalarsK_pt r _ h _ h2
    · exact h.elim
theorem cellsK_pt {v : AV} {k : List AV → Prop} (h : cellsK v k) : ∃ cs, k cs ∧ ∀ k' : List AV → Prop, k' cs → cellsK v k' := by
  unfold cellsK at h ⊢
  split at h
  · rw [upPK_eq] at h
    exact ⟨_, (scalarsK_out _ _ h).2, fun k' h2 => by rw [upPK_eq]; exact scalarsK_pt _ _ h _ h2⟩
  · exact ⟨_, (scalarsK_out _ _ h).2, fun k' h2 => scalarsK_pt _ _ h _ h2⟩
  · exact ⟨_, (scalarsK_out _ _ h).2, fun k' h2 => scalarsK_pt _ _ h _ h2⟩
theorem cellsPK_pt {e : PV} {k : List PV → Prop} (h : cellsPK e k) : ∃ cs, k cs ∧ ∀ k' : List PV → Prop, k' cs → cellsPK e k' := by
  unfold cellsPK at h ⊢
  split at h
  · exact ⟨_, h, fun k' h2 => h2⟩
  · exact h.elim
  · exact h.elim
  · exact ⟨_, h, fun k' h2 => h2⟩
theorem readPK_pt {n : Option Nat} {cs : List PV} {k : AV → Prop} (h : readPK n cs k) : ∃ v, k v ∧ ∀ k' : AV → Prop, k' v → readPK n cs k' := by
  unfold readPK at h ⊢
  cases n with
  | none => obtain ⟨x, r, rfl, hk⟩ := headK_out h; exact ⟨_, hk, fun k' h2 => h2⟩
  | some n => obtain ⟨h1, h2⟩ := takeK_out _ _ _ h; exact ⟨_, h2, fun k' h3 => takeK_in _ _ _ h1 h3⟩
theorem readAK_pt {n : Option Nat} {cs : List AV} {k : AV → Prop} (h : readAK n cs k) : ∃ v, k v ∧ ∀ k' : AV → Prop, k' v → readAK n cs k' := by
  unfold readAK at h ⊢
  cases n with
  | none => obtain ⟨x, r, rfl, hk⟩ := headK_out h; exact ⟨_, hk, fun k' h2 => h2⟩
  | some n =>
    obtain ⟨h1, h2⟩ := takeK_out _ _ _ h
    obtain ⟨a, h3⟩ := mkAggK_pt (cs.take n)
    simp only [h3] at h2
    exact ⟨_, h2, fun k' h4 => takeK_in _ _ _ h1 (by rw [h3]; exact h4)⟩
theorem fillK_pt : ∀ (l : List (Nat × Nat × AV)) (cs : List AV) {k : List AV → Prop}, fillK l cs k → ∃ v, k v ∧ ∀ k' : List AV → Prop, k' v → fillK l cs k'
  | [], cs, k, h => ⟨_, h, fun k' h2 => h2⟩
  | (off, n, v) :: r, cs, k, h => by
    simp only [fillK] at h ⊢
    obtain ⟨news, h, h1⟩ := cellsK_pt h
    cases hb : Nat.beq news.length n with
    | false => rw [hb] at h; exact h.elim
    | true =>
      rw [hb] at h
      obtain ⟨h2, h⟩ := spliceK_out _ _ _ _ h
      obtain ⟨v, hk, h3⟩ := fillK_pt r _ h
      exact ⟨v, hk, fun k' h4 => h1 _ (by rw [hb]; exact spliceK_in _ _ _ _ h2 (h3 _ h4))⟩
theorem litK_pt (sz : Nat) : ∀ (l : List (Nat × Rv)) (fr : FR) (es : List PV) {k : List PV → Prop}, litK sz l fr es k → ∃ v, k v ∧ ∀ k' : List PV → Prop, k' v → litK sz l fr es k'
  | [], fr, es, k, h => ⟨_, h, fun k' h2 => h2⟩
  | (i, x) :: r, fr, es, k, h => by
    simp only [litK, evK_eq] at h ⊢
    split at h
    · rename_i e he
      obtain ⟨cs, h, h1⟩ := cellsPK_pt h
      cases hb : Nat.beq cs.length sz with
      | false => rw [hb] at h; exact h.elim
      | true =>
        rw [hb] at h
        obtain ⟨h2, h⟩ := setAtK_out _ _ _ _ h
        obtain ⟨v, hk, h3⟩ := litK_pt sz r fr _ h
        exact ⟨v, hk, fun k' h4 => by
          exact h1 _ (by rw [hb]; exact setAtK_in _ _ _ _ h2 (h3 _ h4))⟩
    · exact h.elim

theorem kindK_pt {j k : IntKind} {K : Prop} (h : kindK j k K) : K ∧ ∀ K' : Prop, K' → kindK j k K' := by
  cases j <;> cases k <;> first | exact ⟨h, fun K' h => h⟩ | exact h.elim
theorem binI_pt {op : BinOp} {k : IntKind} {a b : Int} {K : AV → Prop} (h : binI op k a b K) : ∃ v, K v ∧ ∀ K' : AV → Prop, K' v → binI op k a b K' := by
  cases op <;> simp only [binI] at h ⊢ <;> first
    | exact ⟨_, h.2, fun K' h2 => ⟨h.1, h2⟩⟩
    | exact ⟨_, h, fun K' h2 => h2⟩
theorem binS_pt {op : BinOp} {a b : ByteArray} {K : AV → Prop} (h : binS op a b K) : ∃ v, K v ∧ ∀ K' : AV → Prop, K' v → binS op a b K' := by
  cases op <;> simp only [binS] at h ⊢ <;> first
    | exact ⟨_, h.2, fun K' h2 => ⟨h.1, h2⟩⟩
    | exact ⟨_, h, fun K' h2 => h2⟩
    | exact h.elim
theorem binK_pt {op : BinOp} {x y : AV} {K : AV → Prop} (h : binK op x y K) : ∃ v, K v ∧ ∀ K' : AV → Prop, K' v → binK op x y K' := by
  unfold binK at h ⊢
  split at h
  · cases hs : isShift op with
    | true => rw [hs] at h; exact binI_pt h
    | false =>
      rw [hs] at h
      obtain ⟨h1, h2⟩ := kindK_pt h
      obtain ⟨v, h3, h4⟩ := binI_pt h1
      exact ⟨v, h3, fun K' h5 => h2 _ (h4 _ h5)⟩
  · exact binS_pt h
  · exact h.elim

theorem aliveV_ext {r : Rf} {g : Nat} {ba lo X : List Ob} (h : aliveV r g ba lo) : aliveV r g ba (lo ++ X) := by
  cases r with
  | l m => exact atK_ext h
  | b id => exact h
theorem aliveE_ext {r : Rf} {g : Nat} {ba lo X : List Ob} (h : aliveE r g ba lo) : aliveE r g ba (lo ++ X) := by
  cases r with
  | l m => exact atK_ext h
  | b id => exact h

theorem contK_pt {sz : Nat} {y : AV} {ba lo : List Ob} {k : List PV → Prop} (h : contK sz y ba lo k) : ∃ ys, k ys ∧ ∀ (X : List Ob) (k' : List PV → Prop), k' ys → contK sz y ba (lo ++ X) k' := by
  unfold contK at h ⊢
  split at h
  · exact ⟨_, h, fun X k' h2 => h2⟩
  · exact ⟨_, h.2, fun X k' h2 => ⟨h.1, h2⟩⟩
  · exact ⟨_, h.2, fun X k' h2 => ⟨h.1, h2⟩⟩
  · obtain ⟨o, ho, h⟩ := atK_out _ _ _ h
    split at h
    · obtain ⟨h1, ys, h2, h3⟩ := h
      exact ⟨ys, h3, fun X k' h4 => atK_in _ _ _ _ (by rw [List.getElem?_append_left (get_lt ho)]; exact ho) (by exact ⟨h1, ys, h2, h4⟩)⟩
    · exact h.elim
  · obtain ⟨o, ho, h⟩ := atK_out _ _ _ h
    split at h
    · obtain ⟨h1, ys, h2, h3⟩ := h
      exact ⟨ys, h3, fun X k' h4 => atK_in _ _ _ _ ho (by exact ⟨h1, ys, h2, h4⟩)⟩
    · exact h.elim
  · exact h.elim

variable {P : Program}

theorem opV_quiet {d : Bool} {i : IOp} (he : effect i = 0) {fr : FR} {ba lo : List Ob} {K : AV → List Ob → List Ob → Prop} (h : opV P d i fr ba lo K) : ∃ v, K v ba lo ∧ ∀ (ba2 lo2 : List Ob) (K' : AV → List Ob → List Ob → Prop), K' v ba2 lo2 → opV P false i fr ba2 lo2 K' := by
  cases i <;> simp only [effect] at he <;> try (cases he; done)
  case mv x => simp only [opV, evK_eq] at h ⊢; exact ⟨_, h, fun _ _ _ h => h⟩
  case build zero parts =>
    simp only [opV, partsK_eq, upPK_eq] at h ⊢
    obtain ⟨cs, h, h1⟩ := fillK_pt _ _ h
    obtain ⟨a, h2⟩ := mkAggK_pt cs
    simp only [h2] at h
    exact ⟨a, h, fun _ _ K' hk => h1 _ (by rw [h2]; exact hk)⟩
  case lit own sz zero len parts =>
    cases own with
    | true => simp at he
    | false =>
      simp only [opV, repK_eq] at h ⊢
      obtain ⟨es, h, h1⟩ := litK_pt _ _ _ _ h
      exact ⟨_, h, fun _ _ K' hk => h1 _ hk⟩
  case bin op x y =>
    simp only [opV, evK_eq] at h ⊢
    obtain ⟨v, h, h1⟩ := binK_pt h
    exact ⟨v, h, fun _ _ K' hk => h1 _ hk⟩
  case mkI t x =>
    simp only [opV, evK_eq] at h ⊢
    split at h
    · exact ⟨_, h, fun _ _ K' hk => hk⟩
    · exact h.elim
  case isNilI neg x =>
    simp only [opV, evK_eq] at h ⊢
    split at h
    · exact ⟨_, h, fun _ _ K' hk => hk⟩
    · exact ⟨_, h, fun _ _ K' hk => hk⟩
    · exact h.elim
  case tas t x =>
    simp only [opV, evK_eq] at h ⊢
    split at h
    · exact ⟨_, h.2, fun _ _ K' hk => ⟨h.1, hk⟩⟩
    · exact h.elim
  case fld off n x =>
    simp only [opV, evK_eq] at h ⊢
    split at h
    · rename_i cs e
      obtain ⟨h1, h⟩ := dropK_out _ _ _ h
      obtain ⟨v, h, h2⟩ := readPK_pt h
      exact ⟨v, h, fun _ _ K' hk => dropK_in _ _ _ h1 (h2 _ hk)⟩
    · rename_i cs e
      obtain ⟨h1, h⟩ := dropK_out _ _ _ h
      obtain ⟨v, h, h2⟩ := readAK_pt h
      exact ⟨v, h, fun _ _ K' hk => dropK_in _ _ _ h1 (h2 _ hk)⟩
    · exact h.elim
  case max2 x y =>
    simp only [opV, evK_eq] at h ⊢
    split at h
    · rename_i k a j b e1 e2
      obtain ⟨h1, h2⟩ := kindK_pt h
      exact ⟨_, h1, fun _ _ K' hk => h2 _ hk⟩
    · exact h.elim
  case min2 x y =>
    simp only [opV, evK_eq] at h ⊢
    split at h
    · rename_i k a j b e1 e2
      obtain ⟨h1, h2⟩ := kindK_pt h
      exact ⟨_, h1, fun _ _ K' hk => h2 _ hk⟩
    · exact h.elim
  case ext x j =>
    simp only [opV, evK_eq] at h ⊢
    split at h
    · rename_i vs e
      obtain ⟨v, h1, h2⟩ := atK_out _ _ _ h
      exact ⟨_, h2, fun _ _ K' hk => atK_in _ _ _ _ h1 hk⟩
    · rename_i vs e
      obtain ⟨v, h1, h2⟩ := atK_out _ _ _ h
      exact ⟨_, h2, fun _ _ K' hk => atK_in _ _ _ _ h1 hk⟩
    · exact h.elim
  case idxA sz len n x j =>
    simp only [opV, evK_eq] at h ⊢
    split at h
    · rename_i cs k j' e1 e2
      obtain ⟨h1, h⟩ := h
      cases n with
      | some n => exact ⟨_, h.2, fun _ _ K' hk => ⟨h1, h.1, hk⟩⟩
      | none => obtain ⟨c, h2, h⟩ := h; exact ⟨_, h, fun _ _ K' hk => ⟨h1, c, h2, hk⟩⟩
    · exact h.elim
  case idxS x j =>
    simp only [opV, evK_eq] at h ⊢
    split at h
    · rename_i t k j' e1 e2
      obtain ⟨c, h1, h⟩ := h
      exact ⟨_, h, fun _ _ K' hk => ⟨c, h1, hk⟩⟩
    · exact h.elim
  case cutS x l0 h0 =>
    simp only [opV, evK_eq, evOK_eq] at h ⊢
    split at h
    · rename_i t e1
      split at h
      all_goals first
        | exact h.elim
        | exact ⟨_, h.2, fun _ _ K' hk => ⟨h.1, hk⟩⟩
        | exact ⟨_, h, fun _ _ K' hk => hk⟩
    · exact h.elim
  case xcall f args =>
    simp only [opV, evsK_eq] at h ⊢
    rcases allPK_pt (args.map fun x => evF x fr) with ⟨ps, h1, h2⟩ | h2
    · simp only [h2] at h ⊢
      obtain ⟨e, hx, hk⟩ := h
      exact ⟨_, hk, fun _ _ K' hk => ⟨e, hx, hk⟩⟩
    · simp only [h2] at h
  case eqs neg x y =>
    simp only [opV, evK_eq] at h ⊢
    split at h
    · obtain ⟨q, h1, h⟩ := h
      exact ⟨_, h, fun _ _ K' hk => ⟨q, h1, hk⟩⟩
    · exact h.elim
  all_goals simp only [opV, evK_eq, evsK_eq] at h ⊢
  all_goals (repeat' split at h)
  all_goals first
    | exact h.elim
    | exact ⟨_, h.2, fun _ _ K' hk => ⟨h.1, hk⟩⟩
    | exact ⟨_, h, fun _ _ K' hk => hk⟩

theorem flat_append (ba lo X : List Ob) : flat ba (lo ++ X) = flat ba lo ++ X.map (Ob.close ba.length) := by simp [flat]

theorem callD_ext {f : Nat} {args : List AV} {ba lo : List Ob} {K : AV → List Ob → List Ob → Prop} (h : CallD P f args ba lo K) : ∃ v, K v ba lo ∧ ∀ (X : List Ob) (K' : AV → List Ob → List Ob → Prop), K' v ba (lo ++ X) → CallVC P f args ba (lo ++ X) K' := by
  obtain ⟨e, h1, h2⟩ := h.out
  exact ⟨_, h2, fun X K' hk => .pure (by rw [flat_append]; exact h1 _) hk⟩

theorem opV_reader {i : IOp} (he : effect i = 1) {fr : FR} {ba lo : List Ob} {K : AV → List Ob → List Ob → Prop} (h : opV P true i fr ba lo K) : ∃ v, K v ba lo ∧ ∀ (X : List Ob) (K' : AV → List Ob → List Ob → Prop), K' v ba (lo ++ X) → opV P false i fr ba (lo ++ X) K' := by
  have ext : ∀ {m : Nat} {o : Ob} {X : List Ob}, lo[m]? = some o → (lo ++ X)[m]? = some o := fun {m o X} h => by rw [List.getElem?_append_left (get_lt h)]; exact h
  cases i <;> simp only [effect] at he <;> try (cases he; done)
  case lit own sz zero len parts => cases own <;> simp at he
  case ofBytes x =>
    simp only [opV, evK_eq] at h ⊢
    obtain ⟨ys, ⟨l, h1, h⟩, h2⟩ := contK_pt h
    exact ⟨_, h, fun X K' hk => h2 _ _ ⟨l, h1, hk⟩⟩
  case load n x =>
    simp only [opV, evK_eq] at h ⊢
    split at h
    · obtain ⟨v, h, h2⟩ := readPK_pt h
      exact ⟨v, h, fun X K' hk => h2 _ hk⟩
    · obtain ⟨o, ho, h⟩ := atK_out _ _ _ h
      split at h
      · obtain ⟨h1, h⟩ := dropK_out _ _ _ h
        obtain ⟨v, h, h2⟩ := readAK_pt h
        exact ⟨v, h, fun X K' hk => atK_in _ _ _ _ (ext ho) (dropK_in _ _ _ h1 (h2 _ hk))⟩
      · exact h.elim
    · obtain ⟨o, ho, h⟩ := atK_out _ _ _ h
      split at h
      · obtain ⟨h1, h⟩ := dropK_out _ _ _ h
        obtain ⟨v, h, h2⟩ := readAK_pt h
        exact ⟨v, h, fun X K' hk => atK_in _ _ _ _ ho (dropK_in _ _ _ h1 (h2 _ hk))⟩
      · exact h.elim
    · obtain ⟨o, ho, h⟩ := atK_out _ _ _ h
      split at h
      · obtain ⟨h0, e, h1, h⟩ := h
        obtain ⟨cs, h, h2⟩ := cellsPK_pt h
        obtain ⟨h3, h⟩ := dropK_out _ _ _ h
        obtain ⟨v, h, h4⟩ := readPK_pt h
        exact ⟨v, h, fun X K' hk => atK_in _ _ _ _ (ext ho) (by exact ⟨h0, e, h1, h2 _ (dropK_in _ _ _ h3 (h4 _ hk))⟩)⟩
      · exact h.elim
    · obtain ⟨o, ho, h⟩ := atK_out _ _ _ h
      split at h
      · obtain ⟨h0, e, h1, h⟩ := h
        obtain ⟨cs, h, h2⟩ := cellsPK_pt h
        obtain ⟨h3, h⟩ := dropK_out _ _ _ h
        obtain ⟨v, h, h4⟩ := readPK_pt h
        exact ⟨v, h, fun X K' hk => atK_in _ _ _ _ ho (by exact ⟨h0, e, h1, h2 _ (dropK_in _ _ _ h3 (h4 _ hk))⟩)⟩
      · exact h.elim
    · exact h.elim
  case len x =>
    simp only [opV, evK_eq] at h ⊢
    split at h
    all_goals first
      | exact h.elim
      | exact ⟨_, h.2, fun X K' hk => ⟨aliveV_ext h.1, hk⟩⟩
      | exact ⟨_, h, fun X K' hk => hk⟩
  case fieldA off x =>
    simp only [opV, evK_eq] at h ⊢
    split at h
    all_goals first
      | exact h.elim
      | exact ⟨_, h.2, fun X K' hk => ⟨aliveE_ext h.1, hk⟩⟩
      | exact ⟨_, h, fun X K' hk => hk⟩
      | (obtain ⟨h1, h⟩ := dropK_out _ _ _ h; exact ⟨_, h, fun X K' hk => dropK_in _ _ _ h1 hk⟩)
  case elemA sz x j =>
    simp only [opV, evK_eq] at h ⊢
    split at h
    · obtain ⟨h0, e, h1, h⟩ := h
      obtain ⟨cs, h, h2⟩ := cellsPK_pt h
      exact ⟨_, h, fun X K' hk => ⟨h0, e, h1, h2 _ hk⟩⟩
    · obtain ⟨h0, e, h1, h⟩ := h
      obtain ⟨cs, h, h2⟩ := cellsPK_pt h
      exact ⟨_, h, fun X K' hk => ⟨h0, e, h1, h2 _ hk⟩⟩
    · exact ⟨_, h.2.2, fun X K' hk => ⟨h.1, aliveV_ext h.2.1, hk⟩⟩
    · exact h.elim
  case cutL sz x l0 h0 mx =>
    simp only [opV, evK_eq, evOK_eq] at h ⊢
    split at h
    · exact h.elim
    · split at h
      · obtain ⟨h1, h⟩ := h
        split at h
        all_goals first
          | exact h.elim
          | exact ⟨_, h.2, fun X K' hk => ⟨h1, h.1, hk⟩⟩
          | exact ⟨_, h, fun X K' hk => ⟨h1, hk⟩⟩
      · split at h
        all_goals first
          | exact h.elim
          | exact ⟨_, h.2, fun X K' hk => ⟨h.1, hk⟩⟩
          | exact ⟨_, h, fun X K' hk => hk⟩
      · obtain ⟨h1, h⟩ := h
        split at h
        all_goals first
          | exact h.elim
          | exact ⟨_, h.2, fun X K' hk => ⟨h1, h.1, hk⟩⟩
      · obtain ⟨h1, h⟩ := h
        split at h
        all_goals first
          | exact h.elim
          | exact ⟨_, h.2, fun X K' hk => ⟨aliveV_ext h1, h.1, hk⟩⟩
          | exact ⟨_, h, fun X K' hk => ⟨aliveV_ext h1, hk⟩⟩
      · exact h.elim
  case call f args =>
    simp only [opV, evsK_eq] at h ⊢
    obtain ⟨v, h, h1⟩ := callD_ext h
    exact ⟨v, h, fun X K' hk => h1 X K' hk⟩
  case callv x args =>
    simp only [opV, evK_eq, evsK_eq] at h ⊢
    split at h
    · exact h.elim
    · obtain ⟨h0, h⟩ := h
      obtain ⟨v, h, h1⟩ := callD_ext h
      exact ⟨v, h, fun X K' hk => ⟨h0, h1 X K' hk⟩⟩
    · obtain ⟨h0, h⟩ := h
      obtain ⟨v, h, h1⟩ := callD_ext h
      exact ⟨v, h, fun X K' hk => ⟨h0, h1 X K' hk⟩⟩
    · exact h.elim
  case look kk zero ok x j =>
    simp only [opV, evK_eq] at h ⊢
    split at h
    · obtain ⟨h0, h⟩ := h
      split at h
      · exact ⟨_, h, fun X K' hk => ⟨h0, hk⟩⟩
      · obtain ⟨o, ho, h⟩ := atK_out _ _ _ h
        split at h
        · obtain ⟨q, hq, h⟩ := h
          exact ⟨_, h, fun X K' hk => ⟨h0, atK_in _ _ _ _ (ext ho) (by exact ⟨q, hq, hk⟩)⟩⟩
        · exact h.elim
      · obtain ⟨o, ho, h⟩ := atK_out _ _ _ h
        split at h
        · obtain ⟨q, hq, h⟩ := h
          exact ⟨_, h, fun X K' hk => ⟨h0, atK_in _ _ _ _ ho (by exact ⟨q, hq, hk⟩)⟩⟩
        · exact h.elim
      · exact h.elim
    · exact h.elim

end Go.Proofs.Ytemfnlidinnniaa.AD
