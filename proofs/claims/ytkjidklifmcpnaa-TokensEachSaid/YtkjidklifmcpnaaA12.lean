/- A plainer machine, twelve: stores and append. -/
import Derived.Test.YtkjidklifmcpnaaA11
namespace Go.Proofs.Ytkjidklifmcpnaa.AD
set_option linter.unusedVariables false
set_option linter.unusedSimpArgs false

section ops
variable {P : Program} {o : Oper} {fr : FR} {ba lo : List Ob} {K : AV → List Ob → List Ob → Prop} {d : Bool}

theorem run_storeVar {w : World} {t ty : TypeId} {b off n : Nat} {cur : Array Value} {v : Value} (hg : w.heap[b]? = some (.cells cur ty (0, 0))) (hn : sizeT P t = some n) (hv : v.cells.size = n) (hfit : off + n ≤ cur.size) (h1 : ∀ (j : Nat) (x : Value), v.cells[j]? = some x → x.oneCell' = true) :
    (storeVar t ⟨b, off, none⟩ v).run P w = .ok () (w.setRow b (cur.toList.take off ++ v.cells.toList ++ cur.toList.drop (off + v.cells.toList.length)).toArray) := by
  obtain ⟨i, hi, hsz⟩ := Option.map_eq_some_iff.1 hn
  have hs := run_storeCells_at P b off ty v.cells.toList 0 cur w hg (by rw [Nat.add_zero, Array.length_toList, hv]; exact hfit) (fun x hx => by
    obtain ⟨j, hj⟩ := List.mem_iff_getElem?.1 hx
    exact h1 j x (by simpa using hj))
  simp only [Nat.add_zero] at hs
  have e : ¬ (v.cells.size ≠ i.size) := by rw [hv, hsz]; simp
  simp only [storeVar, sizeOf, typeInfo, Sem.run_bind, run_program, Result.andThen_ok, hi, Sem.run_pure, Sem.run_ite, if_neg e, hs]

theorem noL_take {M : Nat → Prop} {n : Nat} {μ : List MI} {w : World} {v : Value} {a : AV} (h : VA ⟨M, n, μ⟩ w v a) (hl : a.noL = true) : VA ⟨M, n, μ.take n⟩ w v a := by
  have at_ : ∀ {id : Nat} {m : MI}, Ctx.at ⟨M, n, μ⟩ (.b id) = some m → Ctx.at ⟨M, n, μ.take n⟩ (.b id) = some m := fun {id m} h => by
    simp only [Ctx.at] at h ⊢
    split at h
    · rename_i hlt; rw [if_pos hlt, List.getElem?_take, if_pos hlt]; exact h
    · cases h
  cases h with
  | p v e h => exact .p v e h
  | ref r off b h => cases r with | l => cases hl | b id => exact .ref _ off b (at_ h)
  | view0 r g sz n h => cases r with | l => cases hl | b id => exact .view0 _ g sz n (at_ h)
  | view r g sz n b len cap h h1 h2 => cases r with | l => cases hl | b id => exact .view _ g sz n b len cap (at_ h) h1 h2
  | viewOld v r g sz len b g' n h hg h0 => cases r with | l => cases hl | b id => exact .viewOld _ _ g sz len b g' n (at_ h) hg h0
  | viewGone v r g sz len h h0 => cases r with | l => cases hl | b id => exact .viewGone _ _ g sz len (at_ h) h0
  | elt r g sz n b idx off h => cases r with | l => cases hl | b id => exact .elt _ g sz n b idx off (at_ h)
  | eltOld v r g sz idx off b g' n h hg h0 => cases r with | l => cases hl | b id => exact .eltOld _ _ g sz idx off b g' n (at_ h) hg h0
  | eltGone v r g sz idx off h h0 => cases r with | l => cases hl | b id => exact .eltGone _ _ g sz idx off (at_ h) h0
  | mapr r b h => cases r with | l => cases hl | b id => exact .mapr _ b (at_ h)
  | maprGone v r h h0 => cases r with | l => cases hl | b id => exact .maprGone _ _ (at_ h) h0
  | clos => cases hl
  | agg => cases hl
  | tup => cases hl

theorem noLs_mem : ∀ {l : List AV}, noLs l = true → ∀ (j : Nat) (a : AV), l[j]? = some a → a.noL = true
  | [], _, j, a, h => by simp at h
  | b :: r, h, j, a, ha => by
    simp only [noLs, Bool.and_eq_true] at h
    cases j with
    | zero => simp at ha; subst ha; exact h.1
    | succ j => exact noLs_mem h.2 j a (by simpa using ha)

theorem arr_splice_get {xs vs : List Value} {off k : Nat} (h : off + vs.length ≤ xs.length) : ((xs.take off ++ vs ++ xs.drop (off + vs.length)).toArray)[k]? = if off ≤ k ∧ k < off + vs.length then vs[k - off]? else xs[k]? := by
  rw [List.getElem?_toArray]; exact splice_get h k

/-- A store into an object's cells. -/
theorem store_obj {Γ : Ctx} {w : World} {off : Nat} {xs : Array Value} {cs news : List AV} {v : Value} (hsz : xs.size = cs.length) (hold : ∀ (j : Nat) (x : Value) (c : AV), xs[j]? = some x → cs[j]? = some c → VA Γ w x c ∧ x.oneCell' = true)
    (hv : CellsV Γ w v.cells news) (h1 : ∀ (j : Nat) (x : Value), v.cells[j]? = some x → x.oneCell' = true) (hfit : off + news.length ≤ cs.length) :
    (xs.toList.take off ++ v.cells.toList ++ xs.toList.drop (off + v.cells.toList.length)).toArray.size = (cs.take off ++ news ++ cs.drop (off + news.length)).length ∧
    ∀ (j : Nat) (x : Value) (c : AV), (xs.toList.take off ++ v.cells.toList ++ xs.toList.drop (off + v.cells.toList.length)).toArray[j]? = some x → (cs.take off ++ news ++ cs.drop (off + news.length))[j]? = some c → VA Γ w x c ∧ x.oneCell' = true := by
  have e1 : v.cells.toList.length = news.length := by rw [Array.length_toList]; exact hv.1
  have f1 : off + v.cells.toList.length ≤ xs.toList.length := by rw [e1]; rw [show xs.toList.length = cs.length by rw [Array.length_toList, hsz]]; exact hfit
  refine ⟨by rw [List.size_toArray, splice_len f1, splice_len hfit, Array.length_toList, hsz], fun j x c hx hc => ?_⟩
  rw [arr_splice_get f1, e1] at hx
  rw [splice_get hfit] at hc
  by_cases hj : off ≤ j ∧ j < off + news.length
  · rw [if_pos hj] at hx hc
    have hx' : v.cells[j - off]? = some x := by simpa using hx
    exact ⟨hv.2 _ x c hx' hc, h1 _ x hx'⟩
  · rw [if_neg hj] at hx hc
    exact hold j x c (by simpa using hx) hc

theorem exec_store {t : TypeId} {x y : Operand} {a : Act} {w w' : World} {ad : Addr} (ho : o.op = .store t x y) (hx : a.eval x = .pointer (some ad)) (h : (storeVar t ad (a.eval y)).run P w = .ok () w') : (execOp a.eval o).run P w = .ok .skip w' := by
  simp [execOp, ho, hx, Instr.storeAt, Instr.sureAddr, h]

theorem s_store {t : TypeId} {n : Nat} {x y : Operand} {rx ry : Rv} (ho : o.op = .store t x y) (hn : sizeT P t = some n) (hx : rv x = some rx) (hy : rv y = some ry) (h : opV P d (.store n rx ry) fr ba lo K) : Sound1 P o fr ba lo K := by
  have hm : x ∈ o.op.operands.toList := by simp [ho, Op.operands]
  have hmy : y ∈ o.op.operands.toList := by simp [ho, Op.operands]
  simp only [opV, evK_eq] at h
  obtain ⟨news, hc, hsc, h⟩ := cellsK_out h
  cases hb : Nat.beq news.length n with
  | false => rw [hb] at h; exact h.elim
  | true =>
    rw [hb] at h
    have hnl : news.length = n := Nat.eq_of_beq_eq_true hb
    simp only [cond_true] at h
    split at h
    · rename_i m off e1
      obtain ⟨ob, hob, h⟩ := atK_out _ _ _ h
      split at h
      · rename_i cs
        obtain ⟨hfit, h⟩ := spliceK_out _ _ _ _ h
        obtain ⟨hml, h⟩ := setAtK_out _ _ _ _ h
        refine ⟨_, _, _, h, fun μ w a hi hp => ?_⟩
        obtain ⟨mi, g1, g2⟩ := hi.at_l hob
        obtain ⟨b, xs, ty, rfl, g3, g4, g5, g6⟩ := g2.acells
        have hptr := ref_inv (hp.get hm hx e1) g1
        have hv := (hp.get hmy hy rfl).cells hc
        have h1 := fun j x hx => hv.one hsc j x hx
        have hst := run_storeVar (P := P) (v := a.eval y) g3 hn (by rw [hv.1, hnl]) (by rw [g4, ← hnl]; exact hfit) h1
        obtain ⟨q1, q2⟩ := store_obj g4 g5 hv h1 hfit
        have hmi : μ[ba.length + m]? = some (.cells b) := g1
        obtain ⟨r1, r2⟩ := hi.change (w' := w.setRow b (xs.toList.take off ++ (a.eval y).cells.toList ++ xs.toList.drop (off + (a.eval y).cells.toList.length)).toArray) (ba' := ba) (lo' := lo.set m (.cells (cs.take off ++ news ++ cs.drop (off + news.length)))) hmi (.refl _)
          (fun b' hb' => .inl hb') rfl rfl rfl (by simp) (fun b' hb' hne => setRow_other w b b' _ (fun e => hne (by rw [e]; rfl))) rfl (by simp) (fun j hj => rfl)
          (fun k hk => by rw [List.getElem?_set_ne (by omega)]) (fun hle o' hlt => by omega) (fun hle k o' hk ho' => by
            have hk' : k = m := by omega
            subst hk'
            rw [List.getElem?_set] at ho'
            rw [if_pos rfl, if_pos hml] at ho'
            cases ho'
            exact .cells b _ ty _ (setRow_heap w b xs _ ty (0, 0) g3) q1 fun j x c hx hc => ⟨(q2 j x c hx hc).1.mono hle.stays hle.above, (q2 j x c hx hc).2⟩)
        exact ⟨undef, _, _, .inr ⟨exec_store ho hptr hst, rfl⟩, .p _ _ (.undef _), r1, r2, rfl⟩
      · exact h.elim
    · rename_i id off e1
      obtain ⟨ob, hob, h⟩ := atK_out _ _ _ h
      cases ob <;> first | exact (show False from h).elim | skip
      rename_i cs
      replace h : (match noLs news with | true => spliceK off news cs fun cs' => setAtK id ba (.cells cs') fun ba' => K (.p .undef) ba' lo | false => False) := h
      split at h
      case h_2 => exact h.elim
      rename_i hnl2
      obtain ⟨hfit, h⟩ := spliceK_out _ _ _ _ h
      obtain ⟨_, h⟩ := setAtK_out _ _ _ _ h
      refine ⟨_, _, _, h, fun μ w a hi hp => ?_⟩
      obtain ⟨mi, g1, g2⟩ := hi.at_b hob
      obtain ⟨b, xs, ty, rfl, g3, g4, g5, g6⟩ := g2.acells
      have hptr := ref_inv (hp.get hm hx e1) g1
      have hv := (hp.get hmy hy rfl).cells hc
      have h1 := fun j x hx => hv.one hsc j x hx
      have hst := run_storeVar (P := P) (v := a.eval y) g3 hn (by rw [hv.1, hnl]) (by rw [g4, ← hnl]; exact hfit) h1
      have hv' : CellsV ⟨blocks μ, ba.length, μ.take ba.length⟩ w (a.eval y).cells news := ⟨hv.1, fun j x c hx hc => noL_take (hv.2 j x c hx hc) (noLs_mem hnl2 j c hc)⟩
      obtain ⟨q1, q2⟩ := store_obj g4 g5 hv' h1 hfit
      have hidl := get_lt hob
      have hmi : μ[id]? = some (.cells b) := by
        simp only [Ctx.at] at g1
        rw [if_pos hidl] at g1
        exact g1
      obtain ⟨r1, r2⟩ := hi.change (w' := w.setRow b (xs.toList.take off ++ (a.eval y).cells.toList ++ xs.toList.drop (off + (a.eval y).cells.toList.length)).toArray) (ba' := ba.set id (.cells (cs.take off ++ news ++ cs.drop (off + news.length)))) (lo' := lo) hmi (.refl _)
        (fun b' hb' => .inl hb') rfl rfl rfl (by simp) (fun b' hb' hne => setRow_other w b b' _ (fun e => hne (by rw [e]; rfl))) (by simp) rfl
        (fun j hj => by rw [List.getElem?_set_ne (fun e => hj e.symm)]) (fun k hk => rfl) (fun hle o' hlt ho' => by
          rw [List.getElem?_set] at ho'
          rw [if_pos rfl, if_pos hidl] at ho'
          cases ho'
          refine .cells b _ ty _ (setRow_heap w b xs _ ty (0, 0) g3) q1 fun j x c hx hc => ⟨(q2 j x c hx hc).1.mono hle.stays ?_, (q2 j x c hx hc).2⟩
          intro i' m' h3
          rw [List.getElem?_take] at h3
          split at h3
          · rename_i hlt'
            obtain ⟨m3, h4, h5⟩ := hle.above i' m' h3
            exact ⟨m3, by rw [List.getElem?_take, if_pos hlt']; exact h4, h5⟩
          · cases h3) (fun hle k o' hk => by omega)
      exact ⟨undef, _, _, .inr ⟨exec_store ho hptr hst, rfl⟩, .p _ _ (.undef _), r1, r2, by simp⟩
    · rename_i m g sz idx off e1
      obtain ⟨ob, hob, h⟩ := atK_out _ _ _ h
      split at h
      · rename_i g' sz' es
        obtain ⟨⟨rfl, rfl⟩, e, he, h⟩ := h
        rcases allPK_out _ _ _ h with ⟨ps, hps, h⟩ | h
        case inr => exact h.elim
        have key : ∃ e', K (.p .undef) ba (lo.set m (.buf g sz (es.set idx e'))) ∧ m < lo.length ∧ ∀ (M : Nat → Prop) (w : World) (c : Value) (vs : Array Value), VP M w c e → c.cells.size = sz → vs.size = ps.length →
            (∀ (j : Nat) (x : Value) (p : PV), vs[j]? = some x → ps[j]? = some p → VP M w x p) → (∀ (j : Nat) (x : Value), vs[j]? = some x → x.oneCell' = true) →
            off + ps.length ≤ sz ∧ ∃ c' : Value, VP M w c' e' ∧ c'.cells.size = sz ∧ (∀ (j : Nat) (x : Value), c'.cells[j]? = some x → x.oneCell' = true) ∧ ∀ k, k < sz → c'.cells[k]? = if off ≤ k ∧ k < off + ps.length then vs[k - off]? else c.cells[k]? := by
          split at h
          · obtain ⟨hfit, h⟩ := spliceK_out _ _ _ _ h
            obtain ⟨hml, h⟩ := setAtK_out _ _ _ _ h
            refine ⟨_, h, hml, fun M w c vs v1 v2 v3 v4 v5 => ?_⟩
            cases v1 with
            | agg xs cs x1 x2 x3 =>
              simp only [Value.cells] at v2 ⊢
              have e3 : vs.toList.length = ps.length := by rw [Array.length_toList]; exact v3
              have f1 : off + vs.toList.length ≤ xs.toList.length := by rw [e3]; rw [show xs.toList.length = _ by rw [Array.length_toList, x1]]; exact hfit
              have getx : ∀ k, (xs.toList.take off ++ vs.toList ++ xs.toList.drop (off + vs.toList.length)).toArray[k]? = if off ≤ k ∧ k < off + ps.length then vs[k - off]? else xs[k]? := fun k => by
                rw [arr_splice_get f1, e3]; simp
              have one : ∀ (j : Nat) (x : Value), (xs.toList.take off ++ vs.toList ++ xs.toList.drop (off + vs.toList.length)).toArray[j]? = some x → x.oneCell' = true := fun j x hx => by
                rw [getx] at hx
                split at hx
                · exact v5 _ x hx
                · exact x3 _ x hx
              have hsz2 : (xs.toList.take off ++ vs.toList ++ xs.toList.drop (off + vs.toList.length)).toArray.size = xs.size := by rw [List.size_toArray, splice_len f1, Array.length_toList]
              refine ⟨by omega, .agg (xs.toList.take off ++ vs.toList ++ xs.toList.drop (off + vs.toList.length)).toArray, .agg _ _ (by rw [hsz2, splice_len hfit, x1]) (fun j x c hx hc => ?_) one, by simp only [Value.cells]; rw [hsz2]; exact v2, by simp only [Value.cells]; exact one, fun k _ => by simp only [Value.cells]; exact getx k⟩
              rw [getx] at hx
              rw [splice_get hfit] at hc
              by_cases hj : off ≤ j ∧ j < off + ps.length
              · rw [if_pos hj] at hx hc; exact v4 _ x c hx hc
              · rw [if_neg hj] at hx hc; exact x2 _ x c hx hc
          · exact h.elim
          · exact h.elim
          · split at h
            · obtain ⟨rfl, rfl, h⟩ := h
              obtain ⟨hml, h⟩ := setAtK_out _ _ _ _ h
              refine ⟨_, h, hml, fun M w c vs v1 v2 v3 v4 v5 => ?_⟩
              have hz : 0 < vs.size := by rw [v3]; simp
              have hv0 : vs[0]? = some vs[0] := Array.getElem?_eq_getElem hz
              have one := v5 0 _ hv0
              refine ⟨by simp, vs[0], v4 0 _ _ hv0 rfl, by rw [cells_of_oneCell one]; rfl, fun j x hx => ?_, fun k hk => ?_⟩
              · rw [cells_of_oneCell one] at hx
                cases j with
                | zero => simp at hx; rw [← hx]; exact one
                | succ j => simp at hx
              · have : k = 0 := by omega
                subst this
                rw [cells_of_oneCell one, if_pos (by simp)]
                simp [hv0]
            · exact h.elim
        obtain ⟨e', hk, hml, hel⟩ := key
        refine ⟨_, _, _, hk, fun μ w a hi hp => ?_⟩
        obtain ⟨mi, g1, g2⟩ := hi.at_l hob
        have hmi : μ[ba.length + m]? = some mi := g1
        rcases g2.row with ⟨n', rfl, rfl⟩ | ⟨b, xs, ty, rfl, g3, g4, g5⟩
        · simp at he
        · have hptr := elt_inv (hp.get hm hx e1) g1
          have hv := (hp.get hmy hy rfl).cells hc
          have h1 := fun j x hx => hv.one hsc j x hx
          obtain ⟨c, c1, c2, c3⟩ := g5.get he
          have hpl : (a.eval y).cells.size = ps.length := by rw [hv.1, hps, List.length_map]
          obtain ⟨l1, c', l2, l3, l4, l5⟩ := hel _ w c (a.eval y).cells c3 c1 hpl (fun j x p hx hp' => (hv.2 j x (.p p) hx (by rw [hps, List.getElem?_map, hp']; rfl)).pv) h1
          have hnl2 : ps.length = n := by rw [← hnl, hps, List.length_map]
          have hidx := get_lt he
          have hfit : idx * sz + off + n ≤ xs.size := by
            have h5 := Nat.mul_le_mul_right sz (show idx + 1 ≤ es.length from hidx)
            rw [Nat.add_mul, Nat.one_mul] at h5
            omega
          have hst := run_storeVar (P := P) (v := a.eval y) g3 hn (by rw [hv.1, hnl]) hfit h1
          have e3 : (a.eval y).cells.toList.length = ps.length := by rw [Array.length_toList]; exact hpl
          have f1 : idx * sz + off + (a.eval y).cells.toList.length ≤ xs.toList.length := by rw [e3, Array.length_toList (xs := xs)]; omega
          have hrow : ∀ {M : Nat → Prop} {w' : World}, Stays (blocks μ) w M w' → RowOf M w' sz (fun k => (xs.toList.take (idx * sz + off) ++ (a.eval y).cells.toList ++ xs.toList.drop (idx * sz + off + (a.eval y).cells.toList.length)).toArray[k]?) (es.set idx e') := fun {M w'} hs => by
            refine (g5.mono hs).set (l2.mono hs) l3 l4 fun k => ?_
            rw [arr_splice_get f1, e3]
            by_cases hk1 : idx * sz ≤ k ∧ k < idx * sz + sz
            · rw [if_pos hk1, l5 _ (by omega)]
              by_cases hk2 : off ≤ k - idx * sz ∧ k - idx * sz < off + ps.length
              · rw [if_pos hk2, if_pos (by omega)]
                simp
                congr 1
                omega
              · rw [if_neg hk2, if_neg (by omega)]
                have hk3 : k - idx * sz < c.cells.size := by rw [c1]; omega
                have := (c2 (k - idx * sz) _ (Array.getElem?_eq_getElem hk3)).2
                rw [show idx * sz + (k - idx * sz) = k by omega] at this
                rw [Array.getElem?_eq_getElem hk3, Array.getElem?_toList]
                exact this
            · rw [if_neg hk1, if_neg (by omega)]
              simp
          have hsz2 : (xs.toList.take (idx * sz + off) ++ (a.eval y).cells.toList ++ xs.toList.drop (idx * sz + off + (a.eval y).cells.toList.length)).toArray.size = xs.size := by rw [List.size_toArray, splice_len f1, Array.length_toList]
          obtain ⟨r1, r2⟩ := hi.change (w' := w.setRow b (xs.toList.take (idx * sz + off) ++ (a.eval y).cells.toList ++ xs.toList.drop (idx * sz + off + (a.eval y).cells.toList.length)).toArray) (ba' := ba) (lo' := lo.set m (.buf g sz (es.set idx e'))) hmi (.refl _)
            (fun b' hb' => .inl hb') rfl rfl rfl (by simp) (fun b' hb' hne => setRow_other w b b' _ (fun e => hne (by rw [e]; rfl))) rfl (by simp) (fun j hj => rfl)
            (fun k hk => by rw [List.getElem?_set_ne (by omega)]) (fun hle o' hlt => by omega) (fun hle k o' hk ho' => by
              have hk' : k = m := by omega
              subst hk'
              rw [List.getElem?_set] at ho'
              rw [if_pos rfl, if_pos hml] at ho'
              cases ho'
              have := ObOk.of_row (Γ := ⟨blocks (μ.set (ba.length + k) (.buf (some b) g xs.size)), ba.length, μ.set (ba.length + k) (.buf (some b) g xs.size)⟩) (g := g) (setRow_heap w b xs (xs.toList.take (idx * sz + off) ++ (a.eval y).cells.toList ++ xs.toList.drop (idx * sz + off + (a.eval y).cells.toList.length)).toArray ty (0, 0) g3) (by rw [hsz2, List.length_set]; exact g4) (hrow hle.stays)
              rw [hsz2] at this
              exact this)
          exact ⟨undef, _, _, .inr ⟨exec_store ho hptr hst, rfl⟩, .p _ _ (.undef _), r1, r2, rfl⟩
      · exact h.elim
    · rename_i m g sz idx off e1
      obtain ⟨ob, hob, h⟩ := atK_out _ _ _ h
      split at h
      · rename_i g' sz' es
        obtain ⟨⟨rfl, rfl⟩, e, he, h⟩ := h
        rcases allPK_out _ _ _ h with ⟨ps, hps, h⟩ | h
        case inr => exact h.elim
        have key : ∃ e', K (.p .undef) (ba.set m (.buf g sz (es.set idx e'))) lo ∧ m < ba.length ∧ ∀ (M : Nat → Prop) (w : World) (c : Value) (vs : Array Value), VP M w c e → c.cells.size = sz → vs.size = ps.length →
            (∀ (j : Nat) (x : Value) (p : PV), vs[j]? = some x → ps[j]? = some p → VP M w x p) → (∀ (j : Nat) (x : Value), vs[j]? = some x → x.oneCell' = true) →
            off + ps.length ≤ sz ∧ ∃ c' : Value, VP M w c' e' ∧ c'.cells.size = sz ∧ (∀ (j : Nat) (x : Value), c'.cells[j]? = some x → x.oneCell' = true) ∧ ∀ k, k < sz → c'.cells[k]? = if off ≤ k ∧ k < off + ps.length then vs[k - off]? else c.cells[k]? := by
          split at h
          · obtain ⟨hfit, h⟩ := spliceK_out _ _ _ _ h
            obtain ⟨hml, h⟩ := setAtK_out _ _ _ _ h
            refine ⟨_, h, hml, fun M w c vs v1 v2 v3 v4 v5 => ?_⟩
            cases v1 with
            | agg xs cs x1 x2 x3 =>
              simp only [Value.cells] at v2 ⊢
              have e3 : vs.toList.length = ps.length := by rw [Array.length_toList]; exact v3
              have f1 : off + vs.toList.length ≤ xs.toList.length := by rw [e3]; rw [show xs.toList.length = _ by rw [Array.length_toList, x1]]; exact hfit
              have getx : ∀ k, (xs.toList.take off ++ vs.toList ++ xs.toList.drop (off + vs.toList.length)).toArray[k]? = if off ≤ k ∧ k < off + ps.length then vs[k - off]? else xs[k]? := fun k => by
                rw [arr_splice_get f1, e3]; simp
              have one : ∀ (j : Nat) (x : Value), (xs.toList.take off ++ vs.toList ++ xs.toList.drop (off + vs.toList.length)).toArray[j]? = some x → x.oneCell' = true := fun j x hx => by
                rw [getx] at hx
                split at hx
                · exact v5 _ x hx
                · exact x3 _ x hx
              have hsz2 : (xs.toList.take off ++ vs.toList ++ xs.toList.drop (off + vs.toList.length)).toArray.size = xs.size := by rw [List.size_toArray, splice_len f1, Array.length_toList]
              refine ⟨by omega, .agg (xs.toList.take off ++ vs.toList ++ xs.toList.drop (off + vs.toList.length)).toArray, .agg _ _ (by rw [hsz2, splice_len hfit, x1]) (fun j x c hx hc => ?_) one, by simp only [Value.cells]; rw [hsz2]; exact v2, by simp only [Value.cells]; exact one, fun k _ => by simp only [Value.cells]; exact getx k⟩
              rw [getx] at hx
              rw [splice_get hfit] at hc
              by_cases hj : off ≤ j ∧ j < off + ps.length
              · rw [if_pos hj] at hx hc; exact v4 _ x c hx hc
              · rw [if_neg hj] at hx hc; exact x2 _ x c hx hc
          · exact h.elim
          · exact h.elim
          · split at h
            · obtain ⟨rfl, rfl, h⟩ := h
              obtain ⟨hml, h⟩ := setAtK_out _ _ _ _ h
              refine ⟨_, h, hml, fun M w c vs v1 v2 v3 v4 v5 => ?_⟩
              have hz : 0 < vs.size := by rw [v3]; simp
              have hv0 : vs[0]? = some vs[0] := Array.getElem?_eq_getElem hz
              have one := v5 0 _ hv0
              refine ⟨by simp, vs[0], v4 0 _ _ hv0 rfl, by rw [cells_of_oneCell one]; rfl, fun j x hx => ?_, fun k hk => ?_⟩
              · rw [cells_of_oneCell one] at hx
                cases j with
                | zero => simp at hx; rw [← hx]; exact one
                | succ j => simp at hx
              · have : k = 0 := by omega
                subst this
                rw [cells_of_oneCell one, if_pos (by simp)]
                simp [hv0]
            · exact h.elim
        obtain ⟨e', hk, hml, hel⟩ := key
        refine ⟨_, _, _, hk, fun μ w a hi hp => ?_⟩
        obtain ⟨mi, g1, g2⟩ := hi.at_b hob
        have hidl := get_lt hob
        have hmi : μ[m]? = some mi := by
          have g3 := g1
          simp only [Ctx.at] at g3
          rw [if_pos hidl] at g3
          exact g3
        rcases g2.of_take.row with ⟨n', rfl, rfl⟩ | ⟨b, xs, ty, rfl, g3, g4, g5⟩
        · simp at he
        · have hptr := elt_inv (hp.get hm hx e1) g1
          have hv := (hp.get hmy hy rfl).cells hc
          have h1 := fun j x hx => hv.one hsc j x hx
          obtain ⟨c, c1, c2, c3⟩ := g5.get he
          have hpl : (a.eval y).cells.size = ps.length := by rw [hv.1, hps, List.length_map]
          obtain ⟨l1, c', l2, l3, l4, l5⟩ := hel _ w c (a.eval y).cells c3 c1 hpl (fun j x p hx hp' => (hv.2 j x (.p p) hx (by rw [hps, List.getElem?_map, hp']; rfl)).pv) h1
          have hnl2 : ps.length = n := by rw [← hnl, hps, List.length_map]
          have hidx := get_lt he
          have hfit : idx * sz + off + n ≤ xs.size := by
            have h5 := Nat.mul_le_mul_right sz (show idx + 1 ≤ es.length from hidx)
            rw [Nat.add_mul, Nat.one_mul] at h5
            omega
          have hst := run_storeVar (P := P) (v := a.eval y) g3 hn (by rw [hv.1, hnl]) hfit h1
          have e3 : (a.eval y).cells.toList.length = ps.length := by rw [Array.length_toList]; exact hpl
          have f1 : idx * sz + off + (a.eval y).cells.toList.length ≤ xs.toList.length := by rw [e3, Array.length_toList (xs := xs)]; omega
          have hrow : ∀ {M : Nat → Prop} {w' : World}, Stays (blocks μ) w M w' → RowOf M w' sz (fun k => (xs.toList.take (idx * sz + off) ++ (a.eval y).cells.toList ++ xs.toList.drop (idx * sz + off + (a.eval y).cells.toList.length)).toArray[k]?) (es.set idx e') := fun {M w'} hs => by
            refine (g5.mono hs).set (l2.mono hs) l3 l4 fun k => ?_
            rw [arr_splice_get f1, e3]
            by_cases hk1 : idx * sz ≤ k ∧ k < idx * sz + sz
            · rw [if_pos hk1, l5 _ (by omega)]
              by_cases hk2 : off ≤ k - idx * sz ∧ k - idx * sz < off + ps.length
              · rw [if_pos hk2, if_pos (by omega)]
                simp
                congr 1
                omega
              · rw [if_neg hk2, if_neg (by omega)]
                have hk3 : k - idx * sz < c.cells.size := by rw [c1]; omega
                have := (c2 (k - idx * sz) _ (Array.getElem?_eq_getElem hk3)).2
                rw [show idx * sz + (k - idx * sz) = k by omega] at this
                rw [Array.getElem?_eq_getElem hk3, Array.getElem?_toList]
                exact this
            · rw [if_neg hk1, if_neg (by omega)]
              simp
          have hsz2 : (xs.toList.take (idx * sz + off) ++ (a.eval y).cells.toList ++ xs.toList.drop (idx * sz + off + (a.eval y).cells.toList.length)).toArray.size = xs.size := by rw [List.size_toArray, splice_len f1, Array.length_toList]
          obtain ⟨r1, r2⟩ := hi.change (w' := w.setRow b (xs.toList.take (idx * sz + off) ++ (a.eval y).cells.toList ++ xs.toList.drop (idx * sz + off + (a.eval y).cells.toList.length)).toArray) (ba' := ba.set m (.buf g sz (es.set idx e'))) (lo' := lo) hmi (.refl _)
            (fun b' hb' => .inl hb') rfl rfl rfl (by simp) (fun b' hb' hne => setRow_other w b b' _ (fun e => hne (by rw [e]; rfl))) (by simp) rfl
            (fun j hj => by rw [List.getElem?_set_ne (fun e => hj e.symm)]) (fun k hk => rfl) (fun hle o' hlt ho' => by
              rw [List.getElem?_set] at ho'
              rw [if_pos rfl, if_pos hml] at ho'
              cases ho'
              have := ObOk.of_row (Γ := ⟨blocks (μ.set m (.buf (some b) g xs.size)), ba.length, (μ.set m (.buf (some b) g xs.size)).take ba.length⟩) (g := g) (setRow_heap w b xs (xs.toList.take (idx * sz + off) ++ (a.eval y).cells.toList ++ xs.toList.drop (idx * sz + off + (a.eval y).cells.toList.length)).toArray ty (0, 0) g3) (by rw [hsz2, List.length_set]; exact g4) (hrow hle.stays)
              rw [hsz2] at this
              exact this) (fun hle k o' hk => by omega)
          exact ⟨undef, _, _, .inr ⟨exec_store ho hptr hst, rfl⟩, .p _ _ (.undef _), r1, r2, by simp⟩
      · exact h.elim
    · exact h.elim

end ops
end Go.Proofs.Ytkjidklifmcpnaa.AD
