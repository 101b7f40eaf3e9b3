/- A plainer machine, twenty-two: a callee read at the place of the call; lists that are nil yet; objects put in another order. -/
import Derived.Test.YtkjidklifmcpnaaA21
namespace Go.Proofs.Ytkjidklifmcpnaa.AD
set_option linter.unusedVariables false
section
variable {P : Program}

/-! ### a callee read in place -/

def resI (fr : FR) (ba lo : List Ob) (rs : List IRes) (K : AV → List Ob → List Ob → Prop) : Prop :=
  ressK fr ba lo rs fun as => match as with
    | [a] => K a ba lo
    | as => mkTupK as fun a => K a ba lo
def endI (f : IF) (K : AV → List Ob → List Ob → Prop) : Exit → FR → List Ob → List Ob → Prop
  | .ret, fr, ba, lo => resI fr ba lo f.res K
  | .normal, fr, ba, lo => resI fr ba lo f.res K
  | _, _, _, _ => False

theorem resI_out {N B : Nat} {fn : Func} {irs : List IRes} (hc : compR P fn.results.toList = some irs) {μ : List MI} {w : World} {a : Act} {fr : FR} {ba lo : List Ob} {K : AV → List Ob → List Ob → Prop} (h : resI fr ba lo irs K) (hr : Rel N B μ w a fr ba lo) :
    ∃ v r, (results fn a.tmps).run P w = .ok v w ∧ K r ba lo ∧ VA ⟨blocks μ, ba.length, μ⟩ w v r := by
  obtain ⟨as, vs, h1, h2, h3, h4⟩ := ressK_out _ _ hc h hr
  have hrun : (results fn a.tmps).run P w = .ok (if h : vs.toArray.size = 1 then vs.toArray[0] else .tuple vs.toArray) w := by
    rw [results_eq]
    have : fn.results.mapM (resRun a.tmps) = (do let l ← fn.results.toList.mapM (resRun a.tmps); pure l.toArray) := by
      rw [Array.mapM_eq_mapM_toList]
      rfl
    rw [this]
    simp only [Sem.run_bind, h2, Result.andThen, Sem.run_pure]
  split at h1
  · rename_i r
    obtain ⟨v, rfl⟩ := List.length_eq_one_iff.1 h3
    exact ⟨v, r, hrun, h1, h4 0 v r rfl rfl⟩
  · rename_i h8
    obtain ⟨r, h9, hk⟩ := mkTupK_out h1
    have hl : vs.toArray.size ≠ 1 := by
      intro e
      have e' : as.length = 1 := by rw [← h3]; simpa using e
      obtain ⟨x, rfl⟩ := List.length_eq_one_iff.1 e'
      exact h8 x rfl
    rw [dif_neg hl] at hrun
    exact ⟨_, r, hrun, hk, VA.of_tup ⟨by simpa using h3, fun j x c hx hcj => h4 j x c (by simpa using hx) hcj⟩ h9⟩

theorem CallVC.inline {own : List Nat} {f : Nat} {ir : IF} {args : List AV} {ba lo : List Ob} {K : AV → List Ob → List Ob → Prop} (hc : compF P own f = some ir.bare) (h : bif Nat.beq args.length ir.params then W P ir.body (frameOf 0 args) ba lo (endI ir K) else False) : CallVC P f args ba lo K := by
  refine ⟨fun μ w xs hi hx => ?_⟩
  unfold compF at hc
  split at hc
  · cases hc
  · rename_i fn hfn
    split at hc
    · cases hc
    · rename_i c hbody
      split at hc
      · rename_i ic rs hic hrs
        split at hc
        · rename_i hcond
          obtain ⟨hpar, _, hm⟩ := hcond
          have hc := Option.some.inj hc
          have e1 : ic = ir.body.bare := congrArg IF.body hc
          have e2 : rs = ir.res := congrArg IF.res hc
          have e3 : fn.params.size + fn.nfree = ir.params := congrArg IF.params hc
          subst e1
          subst e2
          cases hb : Nat.beq args.length ir.params with
          | false => rw [hb] at h; exact h.elim
          | true =>
            rw [hb] at h
            have hlen : args.length = ir.params := Nat.eq_of_beq_eq_true hb
            have h : W P ir.body (frameOf 0 args) ba lo (endI ir K) := h
            have hsz : xs.size = args.length := hx.1
            have hrel : Rel fn.ntmps w.heap.size μ w { tmps := xs ++ Array.replicate (fn.ntmps - xs.size) undef, defers := [] } (frameOf 0 args) ba lo := by
              refine ⟨hi, by simp; omega, Nat.le_refl _, .nil, fun t => ?_⟩
              rw [frameOf_get, if_pos (Nat.zero_le _), Nat.sub_zero]
              simp only [Array.getD_eq_getD_getElem?]
              rcases Nat.lt_or_ge t args.length with ht | ht
              · rw [Array.getElem?_append_left (by omega), Array.getElem?_eq_getElem (by omega), List.getElem?_eq_getElem ht]
                exact hx.2 t _ _ (Array.getElem?_eq_getElem (by omega)) (List.getElem?_eq_getElem ht)
              · rw [List.getElem?_eq_none (by omega)]
                exact .p _ _ (.undef _)
            refine callsIn_wide.1 (callsIn_of_wp_marks (F := FW none) (n := 0) hfn hbody trivial (wpIn_mono (W_sound hm 0 ir.body c hic h hrel) fun e a' w' hp => ?_))
            obtain ⟨μ', fr', ba', lo', g1, g2, g3, g4⟩ := hp
            have fin : resI fr' ba' lo' ir.res K → LeavesInM (FW none) 0 P fn a'.tmps (fun e w' => ∃ v' r μ'' ba'' lo'', e = .returned v' ∧ VA ⟨blocks μ'', ba.length, μ''⟩ w' v' r ∧ Inv μ'' w' ba'' lo'' ∧ Le μ w μ'' w' ∧ ba''.length = ba.length ∧ K r ba'' lo'') a'.defers .returning w' := fun g1 => by
              obtain ⟨Ds, d1, d2, d3⟩ := g2.defers
              rw [d1]
              refine leaves_marks Ds d2 (fun D hD => (d3 D hD).2.2) ?_
              obtain ⟨q1, q2⟩ := Rel.shut (a := a') Ds d2 d3 ⟨g2.inv, g2.size, g2.base, .nil, g2.vals⟩ g3
              obtain ⟨v, r, k1, k2, k3⟩ := resI_out hrs g1 q1
              exact ⟨v, k1, v, r, μ', ba', lo', rfl, by rw [← g4]; exact k3, q1.inv, q2, g4, k2⟩
            cases e with
            | normal => exact fin g1
            | ret => exact fin g1
            | exit id => exact g1.elim
            | goto l => exact g1.elim
            | panic ch => exact g1.elim
            | outgrown => exact g1.elim
        · cases hc
      · cases hc

/-! ### a call seen from nowhere: no objects but its own -/

theorem pureF_nil {f : Nat} {ps : List PV} {r : PV} (h : callA P f (ps.map .p) [] fun r' H' => r' = .p r ∧ H' = []) (hr : Flat r) : pureF P f (ps.map .p) (.p r) := by
  intro H μ w xs hi hx
  have hc := h [] w xs (inv_nil w) ⟨hx.1, fun j x a hj ha => by
    have := hx.2 j x a hj ha
    rw [List.getElem?_map] at ha
    obtain ⟨p, hp, rfl⟩ := Option.map_eq_some_iff.1 ha
    exact .p _ _ (this.pv.mono ⟨Nat.le_refl _, fun b _ _ => ⟨fun ⟨i, m, h, _⟩ => by simp at h, rfl⟩⟩)⟩
  refine Calls.mono' hc ?_
  rintro e w' ⟨v, r', H', μ', rfl, ⟨rfl, rfl⟩, g3, g4, g5⟩
  have hkeep : ∀ b, b < w.heap.size → w'.heap[b]? = w.heap[b]? := fun b hb => (g5.stays.2 b hb fun ⟨i, m, h, _⟩ => by simp at h).2
  exact ⟨v, _, _, μ, rfl, ⟨rfl, rfl⟩, hi.kept g5.stays.1 hkeep, .p _ _ (g4.pv.anywhere hr), g5.os, g5.tape, g5.output, .refl μ, g5.stays.1, fun b hb hm => ⟨hm, hkeep b hb⟩⟩

theorem pureF_nil_of {own : List Nat} {f : Nat} {ir : IF} {ps : List PV} {r : PV} (hc : compF P own f = some ir.bare) (hr : Flat r) (h : fnV P ir (ps.map .p) [] fun r' H' => r' = .p r ∧ H' = []) : pureF P f (ps.map .p) (.p r) :=
  pureF_nil (sound hc h) hr

/-! ### a list that is nil yet is an object without cells -/

theorem CallVC.ghost {f : Nat} {args : List AV} {ba lo : List Ob} {K : AV → List Ob → List Ob → Prop} (m j sz : Nat) {cs : List AV} (h1 : lo[m]? = some (.cells cs)) (h2 : cs[j]? = some (.p .nils))
    (h : CallVC P f args ba (lo.set m (.cells (cs.set j (.view (.l lo.length) 0 sz 0))) ++ [.buf 0 sz []]) K) : CallVC P f args ba lo K := by
  refine ⟨fun μ w xs hi hx => ?_⟩
  have hblk : ∀ b, blocks (μ ++ [.buf none 0 0]) b → blocks μ b := by
    rintro b ⟨i, m', hm, hb⟩
    rcases Nat.lt_or_ge i μ.length with hl | hl
    · rw [List.getElem?_append_left hl] at hm; exact ⟨i, m', hm, hb⟩
    · rw [List.getElem?_append_right hl] at hm
      have : i - μ.length = 0 := by have := get_lt hm; simp at this; omega
      rw [this] at hm
      cases hm
      cases hb
  have hst : Stays (blocks μ) w (blocks (μ ++ [.buf none 0 0])) w := ⟨Nat.le_refl _, fun b _ hb => ⟨fun hc => hb (hblk b hc), rfl⟩⟩
  have hab : Above μ (μ ++ [.buf none 0 0]) := fun i m' hm => ⟨m', by rw [List.getElem?_append_left (get_lt hm)]; exact hm, .refl _⟩
  have hle : ba.length ≤ μ.length := by rw [hi.len]; omega
  have htk : (μ ++ [MI.buf none 0 0]).take ba.length = μ.take ba.length := List.take_append_of_le_length hle
  have obm : ∀ {m : MI} {o : Ob} {μ1 μ2 : List MI}, Above μ1 μ2 → ObOk ⟨blocks μ, ba.length, μ1⟩ w m o → ObOk ⟨blocks (μ ++ [.buf none 0 0]), ba.length, μ2⟩ w m o := fun ha ho => ho.mono hst ha fun b _ => rfl
  have hml := get_lt h1
  have hi2 : Inv (μ ++ [.buf none 0 0]) w ba (lo.set m (.cells (cs.set j (.view (.l lo.length) 0 sz 0))) ++ [.buf 0 sz []]) := by
    refine ⟨by simp [hi.len]; omega, fun a c m1 m2 b g1 g2 g3 g4 => ?_, fun i o ho => ?_, fun k o ho => ?_⟩
    · have lt : ∀ {a : Nat} {m1 : MI}, (μ ++ [.buf none 0 0])[a]? = some m1 → m1.block? = some b → μ[a]? = some m1 := fun {a m1} g1 g3 => by
        rcases Nat.lt_or_ge a μ.length with hl | hl
        · rwa [List.getElem?_append_left hl] at g1
        · rw [List.getElem?_append_right hl] at g1
          have : a - μ.length = 0 := by have := get_lt g1; simp at this; omega
          rw [this] at g1
          cases g1
          cases g3
      exact hi.apart a c m1 m2 b (lt g1 g3) (lt g2 g4) g3 g4
    · obtain ⟨m1, g1, g2⟩ := hi.bases i o ho
      refine ⟨m1, by rw [List.getElem?_append_left (get_lt g1)]; exact g1, ?_⟩
      rw [htk]
      exact obm (.refl _) g2
    · rcases Nat.lt_or_ge k lo.length with hk | hk
      · rw [List.getElem?_append_left (by simpa using hk), List.getElem?_set] at ho
        by_cases hkm : m = k
        · subst hkm
          rw [if_pos rfl, if_pos hml] at ho
          cases ho
          obtain ⟨m1, g1, g2⟩ := hi.locs m _ h1
          refine ⟨m1, by rw [List.getElem?_append_left (get_lt g1)]; exact g1, ?_⟩
          cases obm hab g2 with
          | cells b ys t _ k1 k2 k3 =>
            refine .cells b ys t _ k1 (by simpa using k2) fun i x c hx hc => ?_
            rw [List.getElem?_set] at hc
            by_cases hij : j = i
            · subst hij
              rw [if_pos rfl, if_pos (get_lt h2)] at hc
              cases hc
              have hv := k3 j x _ hx h2
              refine ⟨?_, hv.2⟩
              have hx0 : x = .slice none 0 0 := by
                have := hv.1.pv
                cases this; rfl
              rw [hx0]
              exact .view0 _ _ _ 0 (by simp only [Ctx.at]; rw [← hi.len, List.getElem?_append_right (Nat.le_refl _), Nat.sub_self]; rfl)
            · rw [if_neg hij] at hc
              exact k3 i x c hx hc
        · rw [if_neg hkm] at ho
          obtain ⟨m1, g1, g2⟩ := hi.locs k o ho
          exact ⟨m1, by rw [List.getElem?_append_left (get_lt g1)]; exact g1, obm hab g2⟩
      · rw [List.getElem?_append_right (by simpa using hk)] at ho
        have hk2 : k = lo.length := by have := get_lt ho; simp at this; omega
        subst hk2
        simp at ho
        subst ho
        exact ⟨.buf none 0 0, by rw [← hi.len, List.getElem?_append_right (Nat.le_refl _), Nat.sub_self]; rfl, .buf0 _ _ _⟩
  refine (h.out (μ ++ [.buf none 0 0]) w xs hi2 ⟨hx.1, fun j x a hj ha => (hx.2 j x a hj ha).mono hst hab⟩).mono fun e w' hw => ?_
  obtain ⟨v, r, μ', ba', lo', g1, g2, g3, g4, g5, g6⟩ := hw
  exact ⟨v, r, μ', ba', lo', g1, g2, g3, ⟨g4.os, g4.tape, g4.output, hab.trans g4.above, hst.trans g4.stays⟩, g5, g6⟩

end
end Go.Proofs.Ytkjidklifmcpnaa.AD
