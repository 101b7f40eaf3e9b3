/- A plainer machine, fourteen: every operation but a call does what its reading says. -/
import Derived.Test.YtgdimfogijfmiaaDoorG2
namespace Go.Proofs.YtgdimfogijfmiaaDoor.AD
set_option linter.unusedVariables false
set_option linter.unusedSimpArgs false

def isCall : IOp → Bool
  | .call _ _ | .callv _ _ | .callE _ _ => true
  | _ => false

section ops
variable {P : Program} {o : Oper} {fr : FR} {ba lo : List Ob} {K : AV → List Ob → List Ob → Prop} {d : Bool}


theorem list2 {α : Type} {xs : Array α} {a b : α} (h : xs.toList = [a, b]) : xs = #[a, b] := by
  apply Array.ext'; simpa using h
theorem list1 {α : Type} {xs : Array α} {a : α} (h : xs.toList = [a]) : xs = #[a] := by
  apply Array.ext'; simpa using h

theorem call_out {i : IOp} {c : Call} {fz : Bool} (ho : o.op = .call c) (hc : compCall P fz c = some i) (hn : isCall i = false) (h : opV P d i fr ba lo K) : Sound1 P o fr ba lo K := by
  obtain ⟨callee, args, ats⟩ := c
  unfold compCall at hc
  split at hc
  · rename_i _ _ _ x y s t e1 e2 e3
    simp only at e1 e2 e3
    have f2 := list2 e2
    have f3 := list2 e3
    subst e1; subst f2; subst f3
    split at hc
    · rename_i e he
      split at hc
      · rename_i ti e' x' y' h1 h2 h3 h4
        split at hc
        · rename_i hz
          obtain ⟨z, hz1, hz2⟩ := map_some hz.1
          split at hc
          · cases hc
            exact s_appF ho he h1 hz1 hz2 hz.2.2 h2 h3 h4 h
          · cases hc
            exact s_app ho he h1 hz1 hz2 hz.2.2 h2 h3 h4 h
        · cases hc
      · rename_i ti x' y' h1 h2 h3 h4
        split at hc
        · rename_i hz
          cases hc
          obtain ⟨z, hz1, hz2⟩ := map_some hz.1
          exact s_appS ho he h1 hz1 hz2 hz.2.1 hz.2.2 h2 h3 h4 h
        · cases hc
      · cases hc
    · cases hc
  · rename_i _ _ _ x t e1 e2 e3
    simp only at e1 e2 e3
    have f2 := list1 e2
    have f3 := list1 e3
    subst e1; subst f2; subst f3
    split at hc
    · rename_i x' h1 h2
      cases hc
      exact s_lenS (ats := #[]) ho h1 h2 h
    · rename_i e x' h1 h2
      cases hc
      exact s_len ho h1 h2 h
    · cases hc
  · rename_i _ _ _ x k t t2 e1 e2 e3
    simp only at e1 e2 e3
    have f2 := list2 e2
    have f3 := list2 e3
    subst e1; subst f2; subst f3
    split at hc
    · rename_i kt et x' k' h1 h2 h3
      obtain ⟨kk, h5, rfl⟩ := map_some hc
      exact s_mdel ho h1 h5 h2 h3 h
    · cases hc
  · rename_i _ _ _ x t e1 e2 e3
    simp only at e1 e2 e3
    have f2 := list1 e2
    have f3 := list1 e3
    subst e1; subst f2; subst f3
    split at hc
    · rename_i e x' h1 h2
      split at hc
      · rename_i ti h4
        split at hc
        · rename_i z h5
          split at hc
          · rename_i h6
            obtain ⟨z', h7, rfl⟩ := map_some hc
            exact s_clr ho h1 h4 h5 h7 h6.1 h6.2 h2 h
          · cases hc
        · cases hc
      · cases hc
    · cases hc
  · rename_i x y e1 e2
    simp only at e1 e2
    have f2 := list2 e2
    subst e1; subst f2
    split at hc
    · rename_i x' y' h1 h2
      cases hc
      exact s_max2 ho h1 h2 h
    · cases hc
  · rename_i x y e1 e2
    simp only at e1 e2
    have f2 := list2 e2
    subst e1; subst f2
    split at hc
    · rename_i x' y' h1 h2
      cases hc
      exact s_min2 ho h1 h2 h
    · cases hc
  · rename_i f e1
    simp only at e1
    subst e1
    split at hc
    · obtain ⟨a, _, rfl⟩ := map_some hc
      cases hn
    · obtain ⟨rs, hrs, rfl⟩ := map_some hc
      simp only [opV, evsK_eq] at h
      rcases allPK_out _ _ _ h with ⟨ps, h1, e, hx, hk⟩ | h
      · refine .quiet _ hk fun μ w a hi hp => ?_
        obtain ⟨a1, a2⟩ := rvs_sound fr (a := a) (w := w) (Γ := ⟨blocks μ, ba.length, μ⟩) hrs (fun x r hm hxr => hp x r (by rw [ho]; simp [Op.operands, Call.operands]; simp at hm; simp [hm]) hxr)
        have hl : (args.map a.eval).size = ps.length := by
          have := congrArg List.length h1
          simp only [List.length_map] at this
          simp
          rw [← this, ← a1]
          simp
        obtain ⟨c, hr, hv⟩ := hx.out (blocks μ) w (args.map a.eval) hl fun j x p hj hpj => by
          have := a2 j x (.p p) (by simpa using hj) (by rw [h1, List.getElem?_map, hpj]; rfl)
          exact this.pv
        exact ⟨c, by simp [execOp, ho, resolve, Act.eval, Deferred.ofValue, invoke, hr], .p _ _ hv⟩
      · exact h.elim
  · obtain ⟨a, _, rfl⟩ := map_some hc
    cases hn
  · cases hc

theorem op_out0 {own : List Nat} {i : IOp} (hc : compO0 P own o = some i) (hn : isCall i = false) (h : opV P d i fr ba lo K) : Sound1 P o fr ba lo K := by
  unfold compO0 at hc
  split at hc
  · rename_i x ho
    obtain ⟨r, hr, rfl⟩ := map_some hc
    exact s_mv (x := x) (by simp [ho, Op.operands]) (fun a w => by simp [execOp, ho]) hr (by simpa only [opV, evK_eq] using h)
  · rename_i x ho
    obtain ⟨r, hr, rfl⟩ := map_some hc
    exact s_mv (x := x) (by simp [ho, Op.operands]) (fun a w => by simp [execOp, ho]) hr (by simpa only [opV, evK_eq] using h)
  · rename_i c a b ho
    split at hc
    · rename_i c' a' b' h1 h2 h3
      cases hc
      exact s_pick ho h1 h2 h3 h
    · cases hc
  · rename_i e ho
    split at hc
    · rename_i ti h1
      split at hc
      · rename_i z h2
        obtain ⟨cs, h3, rfl⟩ := map_some hc
        exact s_alloc ho h1 h2 h3 h
      · cases hc
    · cases hc
  · rename_i e x ho
    obtain ⟨r, hr, hc⟩ := map_some hc
    split at hc
    · subst hc
      exact s_boxF ho hr h
    · subst hc
      exact s_box ho hr h
  · rename_i t parts ho
    split at hc
    · rename_i ti h1
      split at hc
      · rename_i z fields h2 h3
        split at hc
        · rename_i zs places h4 h5
          obtain ⟨ps, h6, rfl⟩ := map_some hc
          exact s_build ho h1 h2 h4 (.inl ⟨fields, places, h3, h5, h6⟩) h
        · cases hc
      · rename_i z n e h2 h3
        split at hc
        · rename_i zs ie h4 h5
          obtain ⟨ps, h6, rfl⟩ := map_some hc
          exact s_build ho h1 h2 h4 (.inr ⟨n, e, ie, h3, h5, h6⟩) h
        · cases hc
      · cases hc
    · cases hc
  · rename_i t len parts ho
    split at hc
    · rename_i e h1
      split at hc
      · rename_i ti h2
        split at hc
        · rename_i z h3
          split at hc
          · rename_i z' ps h4 h5
            split at hc
            · rename_i hz
              cases hc
              exact s_lit ho h1 h2 h3 h4 h5 hz.1 hz.2.1 hz.2.2 h
            · split at hc
              · rename_i hz2
                cases hc
                obtain ⟨hz3, hz4⟩ := hz2
                subst hz3
                exact s_litZ ho h1 h2 h5 (List.isEmpty_iff.1 hz4) h
              · cases hc
          · cases hc
        · cases hc
      · cases hc
    · cases hc
  · rename_i t a ho
    split at hc
    · rename_i n a' h1 h2
      cases hc
      exact s_load ho h1 h2 h
    · cases hc
  · rename_i t a x ho
    split at hc
    · rename_i n a' x' h1 h2 h3
      cases hc
      exact s_store ho h1 h2 h3 h
    · cases hc
  · rename_i x ho
    obtain ⟨r, hr, rfl⟩ := map_some hc
    exact s_nilck ho hr h
  · obtain ⟨r, hr, rfl⟩ := map_some hc
    exact (show False from h).elim
  · rename_i t x ho
    split at hc
    · rename_i fs x' h1 h2
      cases hc
      exact s_mkI ho h1 h2 h
    · cases hc
  · rename_i x s t ho
    split at hc
    · rename_i fs x' h1 h2
      cases hc
      exact s_tas ho h1 h2 h
    · cases hc
  · rename_i op t x y yt ho
    split at hc
    · rename_i k x' y' h1 h2 h3
      cases hc
      exact s_bin ho h2 h3 h
    · rename_i x' y' h1 h2 h3
      cases hc
      exact s_bin ho h2 h3 h
    · rename_i x' y' h1 h2 h3
      split at hc
      · cases hc
        exact s_eqb ho (by simp) h1 h2 h3 h
      · cases hc
        exact s_eqb ho (by simp) h1 h2 h3 h
      · cases hc
    · rename_i fs x' y' h1 h2 h3
      split at hc
      · rename_i h4
        obtain ⟨h5, h6⟩ := h4
        split at hc
        · rename_i ks h4
          cases hc
          exact s_eqs ho (by simp) h1 h4 h5 h6 h2 h3 h
        · rename_i ks h4
          cases hc
          exact s_eqs ho (by simp) h1 h4 h5 h6 h2 h3 h
        · cases hc
      · cases hc
    · rename_i u1 x' h1 h2 h3
      split at hc
      · cases hc
        exact s_isNilS ho (by simp) h1 h2 h3 h
      · cases hc
        exact s_isNilS ho (by simp) h1 h2 h3 h
      · cases hc
    · rename_i u1 u2 u3 x' h1 h2 h3
      split at hc
      · cases hc
        exact s_isNil ho (by simp) h1 h2 h3 h
      · cases hc
        exact s_isNil ho (by simp) h1 h2 h3 h
      · cases hc
    · rename_i u1 x' h1 h2 h3
      split at hc
      · cases hc
        exact s_isNilI ho (by simp) h1 h2 h3 h
      · cases hc
        exact s_isNilI ho (by simp) h1 h2 h3 h
      · cases hc
    · cases hc
  · rename_i t x ho
    obtain ⟨r, hr, rfl⟩ := map_some hc
    exact s_not ho hr h
  · rename_i t x ho
    obtain ⟨r, hr, rfl⟩ := map_some hc
    exact s_neg ho hr h
  · rename_i s t x ho
    split at hc
    · rename_i j k x' h1 h2 h3
      cases hc
      exact s_conv ho h1 h2 h3 h
    · rename_i x' h1 h2 h3
      cases hc
      exact s_mvS ho h1 h2 h3 h
    · rename_i e x' h1 h2 h3
      split at hc
      · rename_i h4
        cases hc
        exact s_toBytes ho h1 h2 h4 h3 h
      · cases hc
    · rename_i e x' h1 h2 h3
      split at hc
      · rename_i h4
        cases hc
        exact s_ofBytes ho h1 h4 h2 h3 h
      · cases hc
    · cases hc
  · rename_i t x l0 h0 m0 ho
    split at hc
    · rename_i x' rl rh h1 h2 h3 h4 h5
      cases hc
      have : m0 = none := by cases m0 with | none => rfl | some m => obtain ⟨r, _, h6⟩ := map_some h5; cases h6
      subst this
      exact s_cutS ho h1 h2 h3 h4 h
    · rename_i e x' rl rh rm h1 h2 h3 h4 h5
      split at hc
      · rename_i n h6
        cases hc
        exact s_cutL ho h1 h6 h2 h3 h4 h5 h
      · cases hc
    · cases hc
  · rename_i s x f ho
    split at hc
    · rename_i fields x' h1 h2
      split at hc
      · rename_i fd h3
        split at hc
        · rename_i n h4
          split at hc
          · cases hc
          · rename_i h5
            cases hc
            exact s_fieldA ho h1 h3 h4 h5 h2 h
        · cases hc
      · cases hc
    · cases hc
  · rename_i t x f ho
    split at hc
    · rename_i fields x' h1 h2
      split at hc
      · rename_i fd h3
        obtain ⟨n, h4, rfl⟩ := map_some hc
        exact s_fld ho h1 h3 h4 h2 h
      · cases hc
    · cases hc
  · rename_i t x i' ho
    split at hc
    · rename_i e x' i2 h1 h2 h3
      obtain ⟨n, h4, rfl⟩ := map_some hc
      exact s_elemA ho h1 h4 h2 h3 h
    · rename_i len e x' i2 h1 h2 h3
      obtain ⟨n, h4, rfl⟩ := map_some hc
      exact s_arrA ho h1 h4 h2 h3 h
    · cases hc
  · rename_i t x i' ho
    split at hc
    · rename_i len e x' i2 h1 h2 h3
      split at hc
      · rename_i sz n h4 h5
        cases hc
        exact s_idxA ho h1 h4 h5 h2 h3 h
      · cases hc
    · rename_i x' i2 h1 h2 h3
      cases hc
      exact s_idxS ho h1 h2 h3 h
    · cases hc
  · rename_i f first cap ho
    split at hc
    · rename_i as bs h1 h2
      cases hc
      exact s_mkfn ho h1 h2 h
    · cases hc
  · rename_i x i' ho
    obtain ⟨r, hr, rfl⟩ := map_some hc
    exact s_ext ho hr h
  · rename_i c ho
    exact call_out ho hc hn h
  · rename_i t ho
    split at hc
    · cases hc
      exact s_mkmapA ho h
    · cases hc
      exact s_mkmap ho h
  · rename_i t r ho
    split at hc
    · rename_i kt et r' h1 h2
      cases hc
      exact s_mkmapH ho h1 h2 h
    · cases hc
  · rename_i t m k ho
    split at hc
    · rename_i kt et m' k' h1 h2 h3
      split at hc
      · rename_i kk z h4 h5
        obtain ⟨z', h6, rfl⟩ := map_some hc
        exact s_ment ho h1 h4 h5 h6 h2 h3 h
      · cases hc
    · cases hc
  · rename_i t m st x ho
    split at hc
    · rename_i kt et m' st' x' h1 h2 h3 h4
      cases hc
      exact s_msto ho h1 h2 h3 h4 h
    · cases hc
  · rename_i t l c ho
    split at hc
    · rename_i e l' c' h1 h2 h3
      split at hc
      · rename_i ti h4
        split at hc
        · rename_i z h5
          split at hc
          · rename_i h6
            split at hc
            · split at hc
              · rename_i h7
                split at hc
                · rename_i h8
                  cases hc
                  exact s_mkA ho h1 h4 h5 h7 h6.1 h8 h6.2.2 h2 h3 h
                · cases hc
              · cases hc
            · obtain ⟨z', h7, rfl⟩ := map_some hc
              exact s_mk ho h1 h4 h5 h7 h6.1 h6.2.1 h6.2.2 h2 h3 h
          · cases hc
        · cases hc
      · cases hc
    · cases hc
  · rename_i t x i' ok ho
    split at hc
    · rename_i kt et x' i2 h1 h2 h3
      split at hc
      · rename_i kk z h4 h5
        obtain ⟨z', h6, rfl⟩ := map_some hc
        exact s_look ho h1 h4 h5 h6 h2 h3 h
      · cases hc
    · cases hc
  · rename_i t m k x ho
    split at hc
    · rename_i kt et m' k' x' h1 h2 h3 h4
      obtain ⟨kk, h5, rfl⟩ := map_some hc
      exact s_mset ho h1 h5 h2 h3 h4 h
    · cases hc
  · cases hc

theorem op_out {own : List Nat} {i : IOp} (hc : compO P own o = some i) (hn : isCall i = false) (h : opV P d i fr ba lo K) : Sound1 P o fr ba lo K := by
  have hi := Option.some.inj hc
  cases h0 : compO0 P own o with
  | none => rw [h0] at hi; subst hi; exact (show False from h).elim
  | some j =>
    rw [h0] at hi
    simp only [Option.getD_some] at hi
    rcases markE_out own o j with h1 | ⟨f, a, _, h1⟩ | ⟨sz, rfl, h1⟩ | ⟨f, a, _, h1⟩ | ⟨x, a, _, h1⟩
    rotate_left 3
    · rw [h1] at hi; subst hi; exact (show False from h).elim
    · rw [h1] at hi; subst hi; exact (show False from h).elim
    · have hj : j = i := by rw [← h1]; exact hi
      subst hj
      exact op_out0 h0 hn h
    · rw [h1] at hi; rw [← hi] at hn; cases hn
    · rw [h1] at hi
      subst hi
      simp only [opV, pushK_eq] at h
      obtain ⟨v, ba', lo', ⟨rfl, rfl, rfl⟩, hs⟩ := op_out0 (K := fun v b l => v = .p .nils ∧ b = ba ∧ l = lo) h0 rfl (show opV P d (.mv (.v (.p .nils))) fr ba lo _ from ⟨rfl, rfl, rfl⟩)
      refine ⟨_, _, _, h, fun μ w a hi ho => ?_⟩
      obtain ⟨c, w', μ', hrun, g1, g2, g3, g4⟩ := hs μ w a hi ho
      obtain ⟨k1, k2, k3⟩ := g2.push (w' := w') (.buf none 0 0) (.buf 0 sz []) (fun b hb => by cases hb) rfl rfl rfl (Nat.le_refl _) (fun _ _ => rfl) (fun _ => .buf0 _ _ _)
      have hc : c = .slice none 0 0 := by
        have := g1.pv
        cases this; rfl
      have hv : VA ⟨blocks (μ' ++ [.buf none 0 0]), ba'.length, μ' ++ [.buf none 0 0]⟩ w' c (.view (.l lo'.length) 0 sz 0) := by
        rw [hc]
        exact .view0 _ _ _ 0 k3
      rcases hrun with hrun | ⟨hrun, he⟩
      · exact ⟨c, w', _, .inl hrun, hv, k1, g3.trans k2, rfl⟩
      · rw [hc] at he; cases he

end ops
end Go.Proofs.YtgdimfogijfmiaaDoor.AD

namespace Go.Proofs.YtgdimfogijfmiaaDoor.AD
set_option linter.unusedVariables false
set_option linter.unusedSimpArgs false

theorem closes_get (n0 : Nat) (l : List AV) (j : Nat) : (AV.closes n0 l)[j]? = (l[j]?).map (AV.close n0) := by rw [closes_map, List.getElem?_map]
theorem closes_length (n0 : Nat) (l : List AV) : (AV.closes n0 l).length = l.length := by rw [closes_map, List.length_map]

theorem at_close {M : Nat → Prop} {n0 : Nat} {μ : List MI} {r : Rf} {m : MI} (hn : n0 ≤ μ.length) (h : Ctx.at ⟨M, n0, μ⟩ r = some m) : Ctx.at ⟨M, μ.length, μ⟩ (r.close n0) = some m := by
  cases r with
  | l k =>
    have h' : μ[n0 + k]? = some m := h
    simp only [Rf.close, Ctx.at]
    rw [if_pos (get_lt h')]; exact h'
  | b id =>
    simp only [Rf.close, Ctx.at] at h ⊢
    split at h
    · rw [if_pos (get_lt h)]; exact h
    · cases h

theorem VA.closed {M : Nat → Prop} {n0 : Nat} {μ : List MI} {w : World} {v : Value} {a : AV} (hn : n0 ≤ μ.length) (h : VA ⟨M, n0, μ⟩ w v a) : VA ⟨M, μ.length, μ⟩ w v (a.close n0) := by
  generalize hΓ : (⟨M, n0, μ⟩ : Ctx) = Γ at h
  induction h with
  | p v e h => subst hΓ; rw [AV.close]; exact .p v e h
  | ref r off b h => subst hΓ; rw [AV.close]; exact .ref _ off b (at_close hn h)
  | view0 r g sz n h => subst hΓ; rw [AV.close]; exact .view0 _ g sz n (at_close hn h)
  | view r g sz n b len cap h hl hc => subst hΓ; rw [AV.close]; exact .view _ g sz n b len cap (at_close hn h) hl hc
  | viewOld v r g sz len b g' n h hg h0 => subst hΓ; rw [AV.close]; exact .viewOld v _ g sz len b g' n (at_close hn h) hg h0
  | viewGone v r g sz len h h0 => subst hΓ; rw [AV.close]; exact .viewGone v _ g sz len (at_close hn h) h0
  | elt r g sz n b idx off h => subst hΓ; rw [AV.close]; exact .elt _ g sz n b idx off (at_close hn h)
  | eltOld v r g sz idx off b g' n h hg h0 => subst hΓ; rw [AV.close]; exact .eltOld v _ g sz idx off b g' n (at_close hn h) hg h0
  | eltGone v r g sz idx off h h0 => subst hΓ; rw [AV.close]; exact .eltGone v _ g sz idx off (at_close hn h) h0
  | tail r g sz n b off len cap h hl hc => subst hΓ; rw [AV.close]; exact .tail _ g sz n b off len cap (at_close hn h) hl hc
  | tail0 r g sz n off b A h => subst hΓ; rw [AV.close]; exact .tail0 _ g sz n off b A (at_close hn h)
  | tailOld v r g sz off len b g' n h hg h0 => subst hΓ; rw [AV.close]; exact .tailOld v _ g sz off len b g' n (at_close hn h) hg h0
  | tailGone v r g sz off len h h0 => subst hΓ; rw [AV.close]; exact .tailGone v _ g sz off len (at_close hn h) h0
  | mapr r b h => subst hΓ; rw [AV.close]; exact .mapr _ b (at_close hn h)
  | maprGone v r h h0 => subst hΓ; rw [AV.close]; exact .maprGone v _ (at_close hn h) h0
  | clos f xs ys as bs h1 h2 _ _ ih1 ih2 =>
    rw [AV.close]
    exact .clos f xs ys _ _ (by rw [closes_length]; exact h1) (by rw [closes_length]; exact h2) (fun j x c hx hc => by
      rw [closes_get] at hc
      obtain ⟨c', hc', rfl⟩ := map_some hc
      exact ih1 j x c' hx hc') (fun j x c hx hc => by
      rw [closes_get] at hc
      obtain ⟨c', hc', rfl⟩ := map_some hc
      exact ih2 j x c' hx hc')
  | agg xs cs h1 _ h3 ih =>
    rw [AV.close]
    exact .agg xs _ (by rw [closes_length]; exact h1) (fun j x c hx hc => by
      rw [closes_get] at hc
      obtain ⟨c', hc', rfl⟩ := map_some hc
      exact ih j x c' hx hc') h3
  | tup xs cs h1 _ ih =>
    rw [AV.close]
    exact .tup xs _ (by rw [closes_length]; exact h1) (fun j x c hx hc => by
      rw [closes_get] at hc
      obtain ⟨c', hc', rfl⟩ := map_some hc
      exact ih j x c' hx hc')

theorem at_low {M : Nat → Prop} {n0 : Nat} {μ : List MI} {r : Rf} {m : MI} (h : Ctx.at ⟨M, n0, μ⟩ r = some m) : r.low n0 := by
  cases r with
  | l k => trivial
  | b id =>
    simp only [Ctx.at] at h
    split at h
    · rename_i hl; exact hl
    · cases h

theorem VA.low {M : Nat → Prop} {n0 : Nat} {μ : List MI} {w : World} {v : Value} {a : AV} (h : VA ⟨M, n0, μ⟩ w v a) : a.Low n0 := by
  generalize hΓ : (⟨M, n0, μ⟩ : Ctx) = Γ at h
  have all : ∀ {xs : Array Value} {cs : List AV}, xs.size = cs.length → (∀ (j : Nat) (x : Value) (c : AV), xs[j]? = some x → cs[j]? = some c → c.Low n0) → ∀ a, a ∈ cs → a.Low n0 := fun {xs cs} hl h a ha => by
    obtain ⟨j, hj⟩ := List.mem_iff_getElem?.1 ha
    have : j < xs.size := by rw [hl]; exact get_lt hj
    exact h j _ a (Array.getElem?_eq_getElem this) hj
  induction h with
  | p v e h => exact .p e
  | ref r off b h => subst hΓ; exact .ref r off (at_low h)
  | view0 r g sz n h => subst hΓ; exact .view r g sz 0 (at_low h)
  | view r g sz n b len cap h hl hc => subst hΓ; exact .view r g sz len (at_low h)
  | viewOld v r g sz len b g' n h hg h0 => subst hΓ; exact .view r g sz len (at_low h)
  | viewGone v r g sz len h h0 => subst hΓ; exact .view r g sz len (at_low h)
  | elt r g sz n b idx off h => subst hΓ; exact .elt r g sz idx off (at_low h)
  | eltOld v r g sz idx off b g' n h hg h0 => subst hΓ; exact .elt r g sz idx off (at_low h)
  | eltGone v r g sz idx off h h0 => subst hΓ; exact .elt r g sz idx off (at_low h)
  | tail r g sz n b off len cap h hl hc => subst hΓ; exact .tail r g sz off len (at_low h)
  | tail0 r g sz n off b A h => subst hΓ; exact .tail r g sz off 0 (at_low h)
  | tailOld v r g sz off len b g' n h hg h0 => subst hΓ; exact .tail r g sz off len (at_low h)
  | tailGone v r g sz off len h h0 => subst hΓ; exact .tail r g sz off len (at_low h)
  | mapr r b h => subst hΓ; exact .mapr r (at_low h)
  | maprGone v r h h0 => subst hΓ; exact .mapr r (at_low h)
  | clos f xs ys as bs h1 h2 _ _ ih1 ih2 => exact .clos f as bs (all h1 ih1) (all h2 ih2)
  | agg xs cs h1 _ h3 ih => exact .agg cs (all h1 ih)
  | tup xs cs h1 _ ih => exact .tup cs (all h1 ih)

theorem lowsL_all {n : Nat} : ∀ {l : List AV}, (∀ a, a ∈ l → a.lowL n = true) → AV.lowsL n l = true
  | [], _ => rfl
  | a :: r, h => by
    simp only [AV.lowsL, Bool.and_eq_true]
    exact ⟨h a (by simp), lowsL_all fun b hb => h b (by simp [hb])⟩
theorem lowsL_mem {n : Nat} : ∀ {l : List AV}, AV.lowsL n l = true → ∀ a, a ∈ l → a.lowL n = true
  | [], _, a, ha => by cases ha
  | b :: r, h, a, ha => by
    simp only [AV.lowsL, Bool.and_eq_true] at h
    cases ha with
    | head => exact h.1
    | tail _ ha => exact lowsL_mem h.2 a ha

theorem at_take_low {M : Nat → Prop} {n0 : Nat} {μ : List MI} {r : Rf} {m : MI} (h : Ctx.at ⟨M, n0, μ.take n0⟩ r = some m) : r.lowL 0 = true := by
  cases r with
  | l k =>
    have h' : (μ.take n0)[n0 + k]? = some m := h
    rw [List.getElem?_take, if_neg (by omega)] at h'
    cases h'
  | b id => rfl

theorem VA.take_low {M : Nat → Prop} {n0 : Nat} {μ : List MI} {w : World} {v : Value} {a : AV} (h : VA ⟨M, n0, μ.take n0⟩ w v a) : a.lowL 0 = true := by
  generalize hΓ : (⟨M, n0, μ.take n0⟩ : Ctx) = Γ at h
  have all : ∀ {xs : Array Value} {cs : List AV}, xs.size = cs.length → (∀ (j : Nat) (x : Value) (c : AV), xs[j]? = some x → cs[j]? = some c → c.lowL 0 = true) → AV.lowsL 0 cs = true := fun {xs cs} hl h => lowsL_all fun a ha => by
    obtain ⟨j, hj⟩ := List.mem_iff_getElem?.1 ha
    have : j < xs.size := by rw [hl]; exact get_lt hj
    exact h j _ a (Array.getElem?_eq_getElem this) hj
  induction h with
  | p v e h => rfl
  | ref r off b h => subst hΓ; simp only [AV.lowL]; exact at_take_low h
  | view0 r g sz n h => subst hΓ; simp only [AV.lowL]; exact at_take_low h
  | view r g sz n b len cap h hl hc => subst hΓ; simp only [AV.lowL]; exact at_take_low h
  | viewOld v r g sz len b g' n h hg h0 => subst hΓ; simp only [AV.lowL]; exact at_take_low h
  | viewGone v r g sz len h h0 => subst hΓ; simp only [AV.lowL]; exact at_take_low h
  | elt r g sz n b idx off h => subst hΓ; simp only [AV.lowL]; exact at_take_low h
  | eltOld v r g sz idx off b g' n h hg h0 => subst hΓ; simp only [AV.lowL]; exact at_take_low h
  | eltGone v r g sz idx off h h0 => subst hΓ; simp only [AV.lowL]; exact at_take_low h
  | tail r g sz n b off len cap h hl hc => subst hΓ; simp only [AV.lowL]; exact at_take_low h
  | tail0 r g sz n off b A h => subst hΓ; simp only [AV.lowL]; exact at_take_low h
  | tailOld v r g sz off len b g' n h hg h0 => subst hΓ; simp only [AV.lowL]; exact at_take_low h
  | tailGone v r g sz off len h h0 => subst hΓ; simp only [AV.lowL]; exact at_take_low h
  | mapr r b h => subst hΓ; simp only [AV.lowL]; exact at_take_low h
  | maprGone v r h h0 => subst hΓ; simp only [AV.lowL]; exact at_take_low h
  | clos f xs ys as bs h1 h2 _ _ ih1 ih2 => simp only [AV.lowL, Bool.and_eq_true]; exact ⟨all h1 ih1, all h2 ih2⟩
  | agg xs cs h1 _ h3 ih => simp only [AV.lowL]; exact all h1 ih
  | tup xs cs h1 _ ih => simp only [AV.lowL]; exact all h1 ih

theorem rf_close_id {n0 : Nat} {r : Rf} (h : r.lowL 0 = true) : r.close n0 = r := by
  cases r with
  | l k => simp [Rf.lowL, Nat.blt] at h
  | b id => rfl

/-- From everybody's side back to its own. -/
theorem at_open {M : Nat → Prop} {n0 : Nat} {μ : List MI} {r : Rf} {m : MI} (hl : r.low n0) (h : Ctx.at ⟨M, μ.length, μ⟩ (r.close n0) = some m) : Ctx.at ⟨M, n0, μ⟩ r = some m := by
  cases r with
  | l k =>
    simp only [Rf.close, Ctx.at] at h ⊢
    split at h
    · exact h
    · cases h
  | b id =>
    simp only [Rf.close, Ctx.at] at h ⊢
    have hl' : id < n0 := hl
    rw [if_pos hl']
    split at h
    · exact h
    · cases h

theorem VA.opened {M : Nat → Prop} {n0 : Nat} {μ : List MI} {w : World} {a : AV} (hl : a.Low n0) : ∀ {v : Value}, VA ⟨M, μ.length, μ⟩ w v (a.close n0) → VA ⟨M, n0, μ⟩ w v a := by
  induction hl with
  | p e => intro v h; rw [AV.close] at h; cases h with | p _ _ h => exact .p v e h
  | ref r o hr => intro v h; rw [AV.close] at h; cases h with | ref _ _ b h => exact .ref r o b (at_open hr h)
  | view r g sz len hr =>
    intro v h; rw [AV.close] at h
    cases h with
    | view0 _ _ _ n h => exact .view0 r g sz n (at_open hr h)
    | view _ _ _ n b _ cap h h1 h2 => exact .view r g sz n b len cap (at_open hr h) h1 h2
    | viewOld _ _ _ _ _ b g' n h h1 h2 => exact .viewOld v r g sz len b g' n (at_open hr h) h1 h2
    | viewGone _ _ _ _ _ h h2 => exact .viewGone v r g sz len (at_open hr h) h2
  | elt r g sz i o hr =>
    intro v h; rw [AV.close] at h
    cases h with
    | elt _ _ _ n b _ _ h => exact .elt r g sz n b i o (at_open hr h)
    | eltOld _ _ _ _ _ _ b g' n h h1 h2 => exact .eltOld v r g sz i o b g' n (at_open hr h) h1 h2
    | eltGone _ _ _ _ _ _ h h2 => exact .eltGone v r g sz i o (at_open hr h) h2
  | tail r g sz off len hr =>
    intro v h; rw [AV.close] at h
    cases h with
    | tail _ _ _ n b _ _ cap h h1 h2 => exact .tail r g sz n b off len cap (at_open hr h) h1 h2
    | tail0 _ _ _ n _ b A h => exact .tail0 r g sz n off b A (at_open hr h)
    | tailOld _ _ _ _ _ _ b g' n h h1 h2 => exact .tailOld v r g sz off len b g' n (at_open hr h) h1 h2
    | tailGone _ _ _ _ _ _ h h2 => exact .tailGone v r g sz off len (at_open hr h) h2
  | mapr r hr =>
    intro v h; rw [AV.close] at h
    cases h with
    | mapr _ b h => exact .mapr r b (at_open hr h)
    | maprGone _ _ h h2 => exact .maprGone v r (at_open hr h) h2
  | clos f as bs _ _ ih1 ih2 =>
    intro v h; rw [AV.close] at h
    cases h with
    | clos _ xs ys _ _ h1 h2 h3 h4 =>
      rw [closes_length] at h1 h2
      exact .clos f xs ys as bs h1 h2 (fun j x c hx hc => ih1 c (List.mem_of_getElem? hc) (h3 j x _ hx (by rw [closes_get, hc]; rfl))) (fun j x c hx hc => ih2 c (List.mem_of_getElem? hc) (h4 j x _ hx (by rw [closes_get, hc]; rfl)))
  | agg cs _ ih =>
    intro v h; rw [AV.close] at h
    cases h with
    | agg xs _ h1 h2 h3 =>
      rw [closes_length] at h1
      exact .agg xs cs h1 (fun j x c hx hc => ih c (List.mem_of_getElem? hc) (h2 j x _ hx (by rw [closes_get, hc]; rfl))) h3
  | tup cs _ ih =>
    intro v h; rw [AV.close] at h
    cases h with
    | tup xs _ h1 h2 =>
      rw [closes_length] at h1
      exact .tup xs cs h1 (fun j x c hx hc => ih c (List.mem_of_getElem? hc) (h2 j x _ hx (by rw [closes_get, hc]; rfl)))

theorem close_id {n0 : Nat} {a : AV} (hl : a.Low n0) : a.lowL 0 = true → a.close n0 = a := by
  have all : ∀ {l : List AV}, (∀ a, a ∈ l → a.lowL 0 = true → a.close n0 = a) → AV.lowsL 0 l = true → AV.closes n0 l = l := fun {l} h hl => by
    rw [closes_map]
    conv => rhs; rw [← List.map_id l]
    exact List.map_congr_left fun a ha => h a ha (lowsL_mem hl a ha)
  induction hl with
  | p e => intro _; rw [AV.close]
  | ref r o hr => intro h; simp only [AV.lowL] at h; rw [AV.close, rf_close_id h]
  | view r g sz len hr => intro h; simp only [AV.lowL] at h; rw [AV.close, rf_close_id h]
  | elt r g sz i o hr => intro h; simp only [AV.lowL] at h; rw [AV.close, rf_close_id h]
  | mapr r hr => intro h; simp only [AV.lowL] at h; rw [AV.close, rf_close_id h]
  | tail r g sz off len hr => intro h; simp only [AV.lowL] at h; rw [AV.close, rf_close_id h]
  | clos f as bs _ _ ih1 ih2 => intro h; simp only [AV.lowL, Bool.and_eq_true] at h; rw [AV.close, all ih1 h.1, all ih2 h.2]
  | agg cs _ ih => intro h; simp only [AV.lowL] at h; rw [AV.close, all ih h]
  | tup cs _ ih => intro h; simp only [AV.lowL] at h; rw [AV.close, all ih h]

theorem at_to_take {M : Nat → Prop} {n0 : Nat} {μ : List MI} {r : Rf} {m : MI} (hl : r.lowL 0 = true) (h : Ctx.at ⟨M, n0, μ⟩ r = some m) : Ctx.at ⟨M, n0, μ.take n0⟩ r = some m := by
  cases r with
  | l k => simp [Rf.lowL, Nat.blt] at hl
  | b id =>
    simp only [Ctx.at] at h ⊢
    split at h
    · rename_i hlt; rw [if_pos hlt, List.getElem?_take, if_pos hlt]; exact h
    · cases h

theorem VA.to_take {M : Nat → Prop} {n0 : Nat} {μ : List MI} {w : World} {v : Value} {a : AV} (h : VA ⟨M, n0, μ⟩ w v a) : a.lowL 0 = true → VA ⟨M, n0, μ.take n0⟩ w v a := by
  generalize hΓ : (⟨M, n0, μ⟩ : Ctx) = Γ at h
  induction h with
  | p v e h => subst hΓ; intro _; exact .p v e h
  | ref r off b h => subst hΓ; intro hl; simp only [AV.lowL] at hl; exact .ref r off b (at_to_take hl h)
  | view0 r g sz n h => subst hΓ; intro hl; simp only [AV.lowL] at hl; exact .view0 r g sz n (at_to_take hl h)
  | view r g sz n b len cap h h1 h2 => subst hΓ; intro hl; simp only [AV.lowL] at hl; exact .view r g sz n b len cap (at_to_take hl h) h1 h2
  | viewOld v r g sz len b g' n h hg h0 => subst hΓ; intro hl; simp only [AV.lowL] at hl; exact .viewOld v r g sz len b g' n (at_to_take hl h) hg h0
  | viewGone v r g sz len h h0 => subst hΓ; intro hl; simp only [AV.lowL] at hl; exact .viewGone v r g sz len (at_to_take hl h) h0
  | elt r g sz n b idx off h => subst hΓ; intro hl; simp only [AV.lowL] at hl; exact .elt r g sz n b idx off (at_to_take hl h)
  | eltOld v r g sz idx off b g' n h hg h0 => subst hΓ; intro hl; simp only [AV.lowL] at hl; exact .eltOld v r g sz idx off b g' n (at_to_take hl h) hg h0
  | eltGone v r g sz idx off h h0 => subst hΓ; intro hl; simp only [AV.lowL] at hl; exact .eltGone v r g sz idx off (at_to_take hl h) h0
  | tail r g sz n b off len cap h h1 h2 => subst hΓ; intro hl; simp only [AV.lowL] at hl; exact .tail r g sz n b off len cap (at_to_take hl h) h1 h2
  | tail0 r g sz n off b A h => subst hΓ; intro hl; simp only [AV.lowL] at hl; exact .tail0 r g sz n off b A (at_to_take hl h)
  | tailOld v r g sz off len b g' n h hg h0 => subst hΓ; intro hl; simp only [AV.lowL] at hl; exact .tailOld v r g sz off len b g' n (at_to_take hl h) hg h0
  | tailGone v r g sz off len h h0 => subst hΓ; intro hl; simp only [AV.lowL] at hl; exact .tailGone v r g sz off len (at_to_take hl h) h0
  | mapr r b h => subst hΓ; intro hl; simp only [AV.lowL] at hl; exact .mapr r b (at_to_take hl h)
  | maprGone v r h h0 => subst hΓ; intro hl; simp only [AV.lowL] at hl; exact .maprGone v r (at_to_take hl h) h0
  | clos f xs ys as bs h1 h2 _ _ ih1 ih2 =>
    intro hl; simp only [AV.lowL, Bool.and_eq_true] at hl
    exact .clos f xs ys as bs h1 h2 (fun j x c hx hc => ih1 j x c hx hc (lowsL_mem hl.1 c (List.mem_of_getElem? hc))) (fun j x c hx hc => ih2 j x c hx hc (lowsL_mem hl.2 c (List.mem_of_getElem? hc)))
  | agg xs cs h1 _ h3 ih => intro hl; simp only [AV.lowL] at hl; exact .agg xs cs h1 (fun j x c hx hc => ih j x c hx hc (lowsL_mem hl c (List.mem_of_getElem? hc))) h3
  | tup xs cs h1 _ ih => intro hl; simp only [AV.lowL] at hl; exact .tup xs cs h1 (fun j x c hx hc => ih j x c hx hc (lowsL_mem hl c (List.mem_of_getElem? hc)))

/-- What holds of the elder ones holds on everybody's side. -/
theorem VA.widen {M : Nat → Prop} {n0 : Nat} {μ : List MI} {w : World} {v : Value} {a : AV} (hn : n0 ≤ μ.length) (h : VA ⟨M, n0, μ.take n0⟩ w v a) : VA ⟨M, μ.length, μ⟩ w v a := by
  have h1 := h.of_take.closed hn
  rwa [close_id h.low h.take_low] at h1

variable {ba lo : List Ob}

theorem flat_length (ba lo : List Ob) : (flat ba lo).length = ba.length + lo.length := by simp [flat]

theorem Inv.flat {μ : List MI} {w : World} (h : Inv μ w ba lo) : Inv μ w (flat ba lo) [] := by
  have hl : μ.length = (AD.flat ba lo).length := by rw [flat_length, h.len]
  have hn : ba.length ≤ μ.length := by rw [h.len]; omega
  refine ⟨by rw [hl]; rfl, h.apart, fun i o ho => ?_, fun k o ho => by simp at ho⟩
  rw [← hl, List.take_length]
  unfold AD.flat at ho
  rcases Nat.lt_or_ge i ba.length with hi | hi
  · rw [List.getElem?_append_left hi] at ho
    obtain ⟨m, h1, h2⟩ := h.bases i o ho
    refine ⟨m, h1, ?_⟩
    cases h2 with
    | cells b xs t cs a1 a2 a3 => exact .cells b xs t cs a1 a2 fun j x c hx hc => ⟨(a3 j x c hx hc).1.widen hn, (a3 j x c hx hc).2⟩
    | loop l r ks cs st p a1 a2 a0 a3 => exact .loop l r ks cs st p a1 a2 a0 fun j t c hj hc => (a3 j t c hj hc).widen hn
    | buf0 g sz n => exact .buf0 g sz n
    | buf b g n sz xs t es c a1 a2 a3 a4 => exact .buf b g n sz xs t es c a1 a2 a3 a4
    | map b clock xs es a1 a2 a3 a4 a5 => exact .map b clock xs es a1 a2 a3 a4 a5
    | mapA b clock xs ks vs a1 a2 a3 a4 a5 => exact .mapA b clock xs ks vs a1 a2 a3 a4 fun j x c hx hc => (a5 j x c hx hc).widen hn
    | bufA b g n xs t es a1 a2 a3 a4 => exact .bufA b g n xs t es a1 a2 a3 fun j x c hx hc => ⟨(a4 j x c hx hc).1.widen hn, (a4 j x c hx hc).2⟩
    | gone => exact .gone
  · rw [List.getElem?_append_right hi, List.getElem?_map] at ho
    obtain ⟨o', ho', rfl⟩ := map_some ho
    obtain ⟨m, h1, h2⟩ := h.locs _ o' ho'
    refine ⟨m, by rw [show i = ba.length + (i - ba.length) by omega]; exact h1, ?_⟩
    cases h2 with
    | cells b xs t cs a1 a2 a3 =>
      exact .cells b xs t _ a1 (by rw [closes_length]; exact a2) fun j x c hx hc => by
        rw [closes_get] at hc
        obtain ⟨c', hc', rfl⟩ := map_some hc
        exact ⟨(a3 j x c' hx hc').1.closed hn, (a3 j x c' hx hc').2⟩
    | loop l r ks cs st p a1 a2 a0 a3 =>
      exact .loop l r ks _ st p a1 a2 (by rw [closes_length]; exact a0) fun j t c hj hc => by
        rw [closes_get] at hc
        obtain ⟨c', hc', rfl⟩ := map_some hc
        exact (a3 j t c' hj hc').closed hn
    | buf0 g sz n => exact .buf0 g sz n
    | buf b g n sz xs t es c a1 a2 a3 a4 => exact .buf b g n sz xs t es c a1 a2 a3 a4
    | map b clock xs es a1 a2 a3 a4 a5 => exact .map b clock xs es a1 a2 a3 a4 a5
    | mapA b clock xs ks vs a1 a2 a3 a4 a5 =>
      exact .mapA b clock xs ks _ a1 a2 (by rw [closes_length]; exact a3) a4 fun j x c hx hc => by
        rw [closes_get] at hc
        obtain ⟨c', hc', rfl⟩ := map_some hc
        exact (a5 j x c' hx hc').closed hn
    | bufA b g n xs t es a1 a2 a3 a4 =>
      exact .bufA b g n xs t _ a1 a2 (by rw [closes_length]; exact a3) fun j x c hx hc => by
        rw [closes_get] at hc
        obtain ⟨c', hc', rfl⟩ := map_some hc
        exact ⟨(a4 j x c' hx hc').1.closed hn, (a4 j x c' hx hc').2⟩
    | gone => exact .gone

theorem ob_low {Γ : Ctx} {w : World} {m : MI} {n0 : Nat} {M : Nat → Prop} {μ : List MI} (hΓ : Γ = ⟨M, n0, μ⟩) {o : Ob} (h : ObOk Γ w m o) : o.Low n0 := by
  subst hΓ
  cases h with
  | cells b xs t cs a1 a2 a3 =>
    intro a ha
    obtain ⟨j, hj⟩ := List.mem_iff_getElem?.1 ha
    have : j < xs.size := by rw [a2]; exact get_lt hj
    exact (a3 j _ a (Array.getElem?_eq_getElem this) hj).1.low
  | loop l r ks cs st p a1 a2 a0 a3 =>
    intro a ha
    obtain ⟨j, hj⟩ := List.mem_iff_getElem?.1 ha
    have : j < ks.length := by rw [a0]; exact get_lt hj
    exact (a3 j _ a (List.getElem?_eq_getElem this) hj).low
  | mapA b clock xs ks vs a1 a2 a3 a4 a5 =>
    intro a ha
    obtain ⟨j, hj⟩ := List.mem_iff_getElem?.1 ha
    have : j < xs.size := by rw [a2, a3]; exact get_lt hj
    exact (a5 j _ a (Array.getElem?_eq_getElem this) hj).low
  | bufA b g n xs t es a1 a2 a3 a4 =>
    intro a ha
    obtain ⟨j, hj⟩ := List.mem_iff_getElem?.1 ha
    have : j < xs.size := by rw [a2]; exact Nat.lt_of_lt_of_le (get_lt hj) a3
    exact (a4 j _ a (Array.getElem?_eq_getElem this) hj).1.low
  | _ => trivial
theorem ob_lowB {w : World} {m : MI} {n0 : Nat} {M : Nat → Prop} {μ : List MI} {o : Ob} (h : ObOk ⟨M, n0, μ.take n0⟩ w m o) : o.LowB n0 := by
  cases h with
  | cells b xs t cs a1 a2 a3 =>
    intro a ha
    obtain ⟨j, hj⟩ := List.mem_iff_getElem?.1 ha
    have : j < xs.size := by rw [a2]; exact get_lt hj
    have := (a3 j _ a (Array.getElem?_eq_getElem this) hj).1
    exact ⟨this.low, this.take_low⟩
  | loop l r ks cs st p a1 a2 a0 a3 =>
    intro a ha
    obtain ⟨j, hj⟩ := List.mem_iff_getElem?.1 ha
    have : j < ks.length := by rw [a0]; exact get_lt hj
    have := a3 j _ a (List.getElem?_eq_getElem this) hj
    exact ⟨this.low, this.take_low⟩
  | mapA b clock xs ks vs a1 a2 a3 a4 a5 =>
    intro a ha
    obtain ⟨j, hj⟩ := List.mem_iff_getElem?.1 ha
    have : j < xs.size := by rw [a2, a3]; exact get_lt hj
    have := a5 j _ a (Array.getElem?_eq_getElem this) hj
    exact ⟨this.low, this.take_low⟩
  | bufA b g n xs t es a1 a2 a3 a4 =>
    intro a ha
    obtain ⟨j, hj⟩ := List.mem_iff_getElem?.1 ha
    have : j < xs.size := by rw [a2]; exact Nat.lt_of_lt_of_le (get_lt hj) a3
    have := (a4 j _ a (Array.getElem?_eq_getElem this) hj).1
    exact ⟨this.low, this.take_low⟩
  | _ => trivial

/-- Back from everybody's side. -/
theorem Inv.unflat {μ : List MI} {w : World} {ba' lo' : List Ob} {n0 : Nat} (hb : ba'.length = n0) (h : Inv μ w (ba' ++ lo'.map (Ob.close n0)) []) (h1 : ∀ o, o ∈ ba' → o.LowB n0) (h2 : ∀ o, o ∈ lo' → o.Low n0) : Inv μ w ba' lo' := by
  subst hb
  have hl : μ.length = ba'.length + lo'.length := by have := h.len; simpa using this
  have hlen : (ba' ++ lo'.map (Ob.close ba'.length)).length = μ.length := by rw [hl]; simp
  refine ⟨hl, h.apart, fun i o ho => ?_, fun k o ho => ?_⟩
  · obtain ⟨m, g1, g2⟩ := h.bases i o (by rw [List.getElem?_append_left (get_lt ho)]; exact ho)
    rw [hlen, List.take_length] at g2
    refine ⟨m, g1, ?_⟩
    have hlo := h1 o (List.mem_of_getElem? ho)
    cases g2 with
    | cells b xs t cs a1 a2 a3 =>
      exact .cells b xs t cs a1 a2 fun j x c hx hc => ⟨by
        obtain ⟨l1, l2⟩ := hlo c (List.mem_of_getElem? hc)
        have := (a3 j x c hx hc).1
        rw [← close_id l1 l2] at this
        exact (VA.opened l1 this).to_take l2, (a3 j x c hx hc).2⟩
    | loop l r ks cs st p a1 a2 a0 a3 =>
      exact .loop l r ks cs st p a1 a2 a0 fun j t c hj hc => by
        obtain ⟨l1, l2⟩ := hlo c (List.mem_of_getElem? hc)
        have := a3 j t c hj hc
        rw [← close_id l1 l2] at this
        exact (VA.opened l1 this).to_take l2
    | buf0 g sz n => exact .buf0 g sz n
    | buf b g n sz xs t es c a1 a2 a3 a4 => exact .buf b g n sz xs t es c a1 a2 a3 a4
    | map b clock xs es a1 a2 a3 a4 a5 => exact .map b clock xs es a1 a2 a3 a4 a5
    | mapA b clock xs ks vs a1 a2 a3 a4 a5 =>
      exact .mapA b clock xs ks vs a1 a2 a3 a4 fun j x c hx hc => by
        obtain ⟨l1, l2⟩ := hlo c (List.mem_of_getElem? hc)
        have := a5 j x c hx hc
        rw [← close_id l1 l2] at this
        exact (VA.opened l1 this).to_take l2
    | bufA b g n xs t es a1 a2 a3 a4 =>
      exact .bufA b g n xs t es a1 a2 a3 fun j x c hx hc => ⟨by
        obtain ⟨l1, l2⟩ := hlo c (List.mem_of_getElem? hc)
        have := (a4 j x c hx hc).1
        rw [← close_id l1 l2] at this
        exact (VA.opened l1 this).to_take l2, (a4 j x c hx hc).2⟩
    | gone => exact .gone
  · have hk := get_lt ho
    obtain ⟨m, g1, g2⟩ := h.bases (ba'.length + k) (o.close ba'.length) (by rw [List.getElem?_append_right (by omega), List.getElem?_map, Nat.add_sub_cancel_left, ho]; rfl)
    rw [hlen, List.take_length] at g2
    refine ⟨m, g1, ?_⟩
    have hlo := h2 o (List.mem_of_getElem? ho)
    cases o with
    | cells cs =>
      cases g2 with
      | cells b xs t _ a1 a2 a3 =>
        rw [closes_length] at a2
        exact .cells b xs t cs a1 a2 fun j x c hx hc => by
          have := a3 j x (c.close ba'.length) hx (by rw [closes_get, hc]; rfl)
          exact ⟨VA.opened (hlo c (List.mem_of_getElem? hc)) this.1, this.2⟩
    | buf g sz es =>
      cases g2 with
      | buf0 g sz n => exact .buf0 g sz n
      | buf b g n sz xs t es c a1 a2 a3 a4 => exact .buf b g n sz xs t es c a1 a2 a3 a4
    | map es => cases g2 with | map b clock xs es a1 a2 a3 a4 a5 => exact .map b clock xs es a1 a2 a3 a4 a5
    | mapA ks vs =>
      cases g2 with
      | mapA b clock xs _ _ a1 a2 a3 a4 a5 =>
        rw [closes_length] at a3
        exact .mapA b clock xs ks vs a1 a2 a3 a4 fun j x c hx hc => VA.opened (hlo c (List.mem_of_getElem? hc)) (a5 j x (c.close ba'.length) hx (by rw [closes_get, hc]; rfl))
    | bufA g es =>
      cases g2 with
      | bufA b _ n xs t _ a1 a2 a3 a4 =>
        rw [closes_length] at a3
        exact .bufA b g n xs t es a1 a2 a3 fun j x c hx hc => by
          have := a4 j x (c.close ba'.length) hx (by rw [closes_get, hc]; rfl)
          exact ⟨VA.opened (hlo c (List.mem_of_getElem? hc)) this.1, this.2⟩
    | loop l r ks cs st =>
      cases g2 with
      | loop _ _ _ _ _ p a1 a2 a0 a3 =>
        rw [closes_length] at a0
        exact .loop l r ks cs st p a1 a2 a0 fun j t c hj hc => VA.opened (hlo c (List.mem_of_getElem? hc)) (a3 j t (c.close ba'.length) hj (by rw [closes_get, hc]; rfl))
    | gone => cases g2 with | gone => exact .gone

/-- A call, back on its own side. -/
theorem call_back0 {P : Program} {f : Nat} {args : List AV} {K : AV → List Ob → List Ob → Prop} (h : CallX P f args ba lo K) {μ : List MI} {w : World} {xs : Array Value} (hi : Inv μ w ba lo) (hx : VAs ⟨blocks μ, ba.length, μ⟩ w xs args) :
    Calls P f xs w fun e w' => ∃ v r μ' ba' lo', e = .returned v ∧ VA ⟨blocks μ', ba.length, μ'⟩ w' v r ∧ Inv μ' w' ba' lo' ∧ Le μ w μ' w' ∧ ba'.length = ba.length ∧ K r ba' lo' := by
  have hn : ba.length ≤ μ.length := by rw [hi.len]; omega
  have hfl : (flat ba lo).length = μ.length := by rw [flat_length, hi.len]
  refine (h.out μ w xs hi.flat ⟨by rw [closes_length]; exact hx.1, fun j x a hj ha => ?_⟩).mono fun e w' hw => ?_
  · rw [closes_get] at ha
    obtain ⟨a', ha', rfl⟩ := map_some ha
    rw [hfl]
    exact (hx.2 j x a' hj ha').closed hn
  · obtain ⟨v, r, H', μ', he, ⟨r', ba', lo', rfl, hr, rfl, hbl, hb1, hl1, hk⟩, hinv, hv, hle⟩ := hw
    have hb2 : ∀ o, o ∈ ba' → o.LowB ba.length := fun o ho => by
      rcases hb1 o ho with h1 | h1
      · obtain ⟨j, hj⟩ := List.mem_iff_getElem?.1 h1
        obtain ⟨m, _, g2⟩ := hi.bases j o hj
        exact ob_lowB g2
      · exact h1
    have hl2 : ∀ o, o ∈ lo' → o.Low ba.length := fun o ho => by
      rcases hl1 o ho with h1 | h1
      · obtain ⟨j, hj⟩ := List.mem_iff_getElem?.1 h1
        obtain ⟨m, _, g2⟩ := hi.locs j o hj
        exact ob_low rfl g2
      · exact h1
    have hinv' := hinv.unflat hbl hb2 hl2
    refine ⟨v, r', μ', ba', lo', he, VA.opened hr ?_, hinv', hle, hbl, hk⟩
    have : (ba' ++ lo'.map (Ob.close ba.length)).length = μ'.length := by rw [hinv'.len]; simp
    rw [this] at hv
    exact hv

theorem CallX.to {P : Program} {f : Nat} {args : List AV} {K : AV → List Ob → List Ob → Prop} (h : CallX P f args ba lo K) : CallVC P f args ba lo K :=
  ⟨fun μ w xs hi hx => call_back0 h hi hx⟩

theorem call_back {P : Program} {f : Nat} {args : List AV} {K : AV → List Ob → List Ob → Prop} (h : CallVC P f args ba lo K) {μ : List MI} {w : World} {xs : Array Value} (hi : Inv μ w ba lo) (hx : VAs ⟨blocks μ, ba.length, μ⟩ w xs args) :
    Calls P f xs w fun e w' => ∃ v r μ' ba' lo', e = .returned v ∧ VA ⟨blocks μ', ba.length, μ'⟩ w' v r ∧ Inv μ' w' ba' lo' ∧ Le μ w μ' w' ∧ ba'.length = ba.length ∧ K r ba' lo' := h.out μ w xs hi hx

theorem CallVC.pure {P : Program} {f : Nat} {args : List AV} {ba lo : List Ob} {K : AV → List Ob → List Ob → Prop} {e : PV} (h : callA P f (AV.closes ba.length args) (flat ba lo) (fun r H' => r = .p e ∧ H' = flat ba lo))
    (k : K (.p e) ba lo) : CallVC P f args ba lo K :=
  CallX.to ⟨h.mono fun r H' ⟨h1, h2⟩ => ⟨.p e, ba, lo, by rw [h1, AV.close], .p e, h2, rfl, fun _ h => .inl h, fun _ h => .inl h, k⟩⟩

end Go.Proofs.YtgdimfogijfmiaaDoor.AD

namespace Go.Proofs.YtgdimfogijfmiaaDoor.AD
set_option linter.unusedVariables false
set_option linter.unusedSimpArgs false

def putF (fr : FR) (d : Option Nat) (v : AV) : FR :=
  match d with
  | some t => setF fr t v
  | none => fr

/-- Marks of ranges over functions among the deferred calls. -/
def Marks (B : Nat) (T : List Deferred) (μ : List MI) (w : World) (ds : List Deferred) : Prop :=
  ∃ Ds : List Nat, ds = Ds.map (fun D => { target := .collected D, args := #[] }) ++ T ∧ Ds.Nodup ∧ ∀ D, D ∈ Ds → B ≤ D ∧ ¬ blocks μ D ∧ w.heap[D]? = some (.deferred (some []))
theorem Marks.nil {B : Nat} {T : List Deferred} {μ : List MI} {w : World} : Marks B T μ w T := ⟨[], rfl, List.nodup_nil, fun D h => by cases h⟩
theorem Marks.mono {B : Nat} {T : List Deferred} {μ μ' : List MI} {w w' : World} {ds : List Deferred} (h : Marks B T μ w ds) (hs : Stays (blocks μ) w (blocks μ') w') : Marks B T μ' w' ds := by
  obtain ⟨Ds, h1, h2, h3⟩ := h
  refine ⟨Ds, h1, h2, fun D hD => ?_⟩
  obtain ⟨g1, g2, g3⟩ := h3 D hD
  obtain ⟨k1, k2⟩ := hs.2 D (Array.getElem?_eq_some_iff.1 g3).1 g2
  exact ⟨g1, k1, k2.trans g3⟩

/-- Whatever is called, in a round of the loop ro or in none. -/
abbrev FW (ro : Option Nat) : Fence := { Fence.wide with round := ro }
theorem calls_FW {P : Program} {f : FuncId} {args : Array Value} {w : World} {R : Ending → World → Prop} (ro : Option Nat) (n : Nat) (h : Calls P f args w R) : CallsIn (FW ro) n P f args w R := (callsIn_wide.2 h : CallsIn Fence.wide n P f args w R)

structure Rel (N B : Nat) (T : List Deferred) (μ : List MI) (w : World) (a : Act) (fr : FR) (ba lo : List Ob) : Prop where
  inv : Inv μ w ba lo
  size : a.tmps.size = N
  base : B ≤ w.heap.size
  defers : Marks B T μ w a.defers
  vals : ∀ t, VA ⟨blocks μ, ba.length, μ⟩ w (a.tmps.getD t undef) (getF fr t)

section
variable {P : Program} {N B : Nat} {T : List Deferred} {ro : Option Nat} {nd : Nat} {μ : List MI} {w : World} {a : Act} {fr : FR} {ba lo : List Ob}

theorem Rel.eval (h : Rel N B T μ w a fr ba lo) {x : Operand} {r : Rv} (hr : rv x = some r) : VA ⟨blocks μ, ba.length, μ⟩ w (a.eval x) (evF r fr) := by
  cases r with
  | v e => exact rv_const hr
  | t n =>
    cases x with
    | tmp t => cases hr; exact h.vals _
    | const v => simp only [rv] at hr; obtain ⟨e, _, h2⟩ := map_some hr; cases h2
    | func f => cases hr
    | global g => cases hr

theorem Rel.opnds (h : Rel N B T μ w a fr ba lo) (o : Oper) : Opnds o a μ w ba fr := fun x r _ hr => h.eval hr

theorem Rel.put (h : Rel N B T μ w a fr ba lo) {μ' : List MI} {w' : World} {ba' lo' : List Ob} {d : Option Nat} {c : Value} {v : AV} (hd : ∀ t, d = some t → t < N) (hi : Inv μ' w' ba' lo') (hle : Le μ w μ' w') (hb : ba'.length = ba.length) (hv : VA ⟨blocks μ', ba.length, μ'⟩ w' c v) :
    Rel N B T μ' w' (a.put d c) (putF fr d v) ba' lo' := by
  have old : ∀ t, VA ⟨blocks μ', ba'.length, μ'⟩ w' (a.tmps.getD t undef) (getF fr t) := fun t => by rw [hb]; exact (h.vals t).mono hle.stays hle.above
  cases d with
  | none => exact ⟨hi, h.size, Nat.le_trans h.base hle.stays.1, h.defers.mono hle.stays, old⟩
  | some d =>
    refine ⟨hi, by simp [Act.put, h.size], Nat.le_trans h.base hle.stays.1, h.defers.mono hle.stays, fun t => ?_⟩
    have hlt := hd d rfl
    simp only [putF, get_set, Act.put]
    by_cases e : d = t
    · subst e
      rw [if_pos rfl]
      have : (a.tmps.setIfInBounds d c).getD d undef = c := by simp [h.size, hlt]
      rw [this, hb]; exact hv
    · rw [if_neg e]
      have : (a.tmps.setIfInBounds d c).getD t undef = a.tmps.getD t undef := by simp [Array.getElem?_setIfInBounds_ne e]
      rw [this]; exact old t

theorem splitB_out {b : Bool} {K : Bool → Prop} (h : splitB b K) : K b := h.out

theorem putK_eq (fr : FR) (d : Option Nat) (v : AV) (K : FR → Prop) : putK fr d v K = K (putF fr d v) := by
  cases d
  · rfl
  · exact setK_eq _ _ _ _

/-- What follows an operation. -/
def nextK (P : Program) (d : Bool) (o : IO_) (r : List IO_) (fr : FR) (K : FR → List Ob → List Ob → Prop) (v : AV) (ba lo : List Ob) : Prop :=
  match o.split with
  | false => putK fr o.dst v fun fr => opsV P d r fr ba lo K
  | true => match v with
    | .p (.bool b) => splitB b fun b => putK fr o.dst (.p (.bool b)) fun fr => opsV P d r fr ba lo K
    | _ => False

theorem nextK_out {d : Bool} {o : IO_} {r : List IO_} {K : FR → List Ob → List Ob → Prop} {v : AV} (h : nextK P d o r fr K v ba lo) : opsV P d r (putF fr o.dst v) ba lo K := by
  unfold nextK at h
  split at h
  · rwa [putK_eq] at h
  · split at h
    · have := splitB_out h
      rwa [putK_eq] at this
    · exact h.elim

/-- Not what the guard asks for. -/
inductive Unw : AV → Bool → Prop
  | bool (b : Bool) : Unw (.p (.bool b)) (!b)
  | skip (b : Bool) : Unw (.p (.tup [])) b

theorem VA.skip (Γ : Ctx) (w : World) : VA Γ w undef (.p (.tup [])) := .p _ _ (.tup #[] [] rfl fun j x c h => by simp at h)

theorem VA.unw {Γ : Ctx} {w : World} {v : Value} {a : AV} {b : Bool} (h : VA Γ w v a) (hu : Unw a b) : v ≠ .bool b := by
  cases hu with
  | bool b' => rw [h.bool_inv]; cases b' <;> simp
  | skip =>
    have := h.pv
    cases this with
    | tup xs _ _ _ => simp

/-- An operation with a guard, or without. -/
theorem opsV_cons {d : Bool} {o : IO_} {r : List IO_} {K : FR → List Ob → List Ob → Prop} (h : opsV P d (o :: r) fr ba lo K) :
    ((∀ t b, o.guard = some (t, b) → getF fr t = .p (.bool b)) ∧ opV P d o.op fr ba lo (nextK P d o r fr K)) ∨
    (∃ t b, o.guard = some (t, b) ∧ Unw (getF fr t) b ∧ opsV P d r (putF fr o.dst (.p (.tup []))) ba lo K) := by
  replace h : opsStep P d o (opsV P d r) fr ba lo K := h
  unfold opsStep at h
  split at h
  · rename_i hg
    exact .inl ⟨fun t b e => (by rw [hg] at e; cases e), h⟩
  · rename_i t b hg
    rw [getK_eq] at h
    split at h
    · have e : getF fr t = .p (.bool true) := by assumption
      exact .inl ⟨fun t' b' e' => (by rw [hg] at e'; cases e'; exact e), h⟩
    · have e : getF fr t = .p (.bool false) := by assumption
      exact .inl ⟨fun t' b' e' => (by rw [hg] at e'; cases e'; exact e), h⟩
    · have e : getF fr t = .p (.bool true) := by assumption
      rw [putK_eq] at h
      exact .inr ⟨t, false, hg, by rw [e]; exact .bool true, h⟩
    · have e : getF fr t = .p (.bool false) := by assumption
      rw [putK_eq] at h
      exact .inr ⟨t, true, hg, by rw [e]; exact .bool false, h⟩
    · have e : getF fr t = .p (.tup []) := by assumption
      rw [putK_eq] at h
      exact .inr ⟨t, true, hg, by rw [e]; exact .skip _, h⟩
    · have e : getF fr t = .p (.tup []) := by assumption
      rw [putK_eq] at h
      exact .inr ⟨t, false, hg, by rw [e]; exact .skip _, h⟩
    · exact h.elim

theorem compI_out {own : List Nat} {all : List Oper} {i : Nat} {o : Oper} {io : IO_} (h : compI P N own all i o = some io) :
    (∀ t, o.dst = some t → t < N) ∧ compO P own o = some io.op ∧ io.dst = o.dst ∧ (o.guard = none ∧ io.guard = none ∨ ∃ j b g t, o.guard = some (j, b) ∧ all[j]? = some g ∧ g.dst = some t ∧ io.guard = some (t, b)) := by
  unfold compI at h
  split at h
  · cases h
  · rename_i hd
    have hd' : ∀ t, o.dst = some t → t < N := fun t e => by
      rw [e] at hd
      have h9 : t + 1 ≤ N := by simpa [Nat.blt] using hd
      exact h9
    split at h
    · cases h
    · rename_i op hop
      split at h
      · rename_i hg
        cases h
        exact ⟨hd', hop, rfl, .inl ⟨hg, rfl⟩⟩
      · rename_i j b hg
        split at h
        · rename_i g hj
          split at h
          · rename_i t ht
            cases h
            exact ⟨hd', hop, rfl, .inr ⟨j, b, g, t, hg, hj, ht, rfl⟩⟩
          · cases h
        · cases h

/-- Is an operation wanted? -/
theorem wanted_of {own : List Nat} {all : List Oper} {i : Nat} {o : Oper} {io : IO_} (hc : compI P N own all i o = some io) (h : ∀ t b, io.guard = some (t, b) → a.tmps.getD t undef = .bool b) : Region.wanted o (yielded all.toArray a.tmps) = true := by
  obtain ⟨_, _, _, h1 | ⟨j, b, g, t, h1, h2, h3, h4⟩⟩ := compI_out hc
  · unfold Region.wanted; rw [h1.1]
  · unfold Region.wanted
    rw [h1]
    have hb := h t b h4
    have : a.tmps[t]? = some (.bool b) := by
      cases he : a.tmps[t]? with
      | none => simp [he, undef] at hb
      | some v => simp [he] at hb; rw [hb]
    simp [yielded, h2, h3, this]
theorem unwanted_of {own : List Nat} {all : List Oper} {i : Nat} {o : Oper} {io : IO_} (hc : compI P N own all i o = some io) {t : Nat} {b : Bool} (hg : io.guard = some (t, b)) (hb : a.tmps.getD t undef ≠ .bool b) : Region.wanted o (yielded all.toArray a.tmps) = false := by
  obtain ⟨_, _, _, h1 | ⟨j, b', g, t', h1, h2, h3, h4⟩⟩ := compI_out hc
  · rw [h1.2] at hg; cases hg
  · rw [h4] at hg
    cases hg
    unfold Region.wanted
    rw [h1]
    have h2' : all.toArray[j]? = some g := by simpa using h2
    have : yielded all.toArray a.tmps j ≠ some b := by
      unfold yielded
      rw [h2']
      simp only [Option.bind_some, h3]
      intro e
      split at e
      · rename_i c hc
        cases e
        exact hb (by simp [hc])
      · cases e
    simpa using this

theorem enters_run {f : Nat} (h : enters P f = true) (args : Array Value) (w : World) : (callFunc f args).run P w = .ok (.enter f args) w := by
  unfold enters at h
  split at h
  · rename_i fn hf
    simp only [Bool.and_eq_true, Bool.not_eq_true'] at h
    obtain ⟨h1, h2⟩ := h
    have h3 : ¬ fn.body = none := by intro e; rw [e] at h1; cases h1
    have h4 : ¬ fn.name = "runtime.NumGoroutine" := by simpa using h2
    unfold callFunc
    simp [hf, h3, h4]
  · cases h

theorem isCall_out {own : List Nat} {o : Oper} {i : IOp} (hc : compO P own o = some i) (hn : isCall i = true) : ∃ c fz i', o.op = .call c ∧ compCall P fz c = some i' ∧ isCall i' = true ∧ (i' = i ∨ ∃ f a, i' = .call f a ∧ i = .callE f a) := by
  have hi := Option.some.inj hc
  cases h0 : compO0 P own o with
  | none => rw [h0] at hi; subst hi; cases hn
  | some j =>
  rw [h0] at hi
  simp only [Option.getD_some] at hi
  obtain ⟨hm, hnj⟩ : (j = i ∨ ∃ f a, j = .call f a ∧ i = .callE f a) ∧ isCall j = true := by
    rcases markE_out own o j with h1 | ⟨f, a, h2, h1⟩ | ⟨sz, _, h1⟩ | ⟨f, a, _, h1⟩ | ⟨x, a, _, h1⟩
    · rw [h1] at hi
      exact ⟨.inl hi, by rw [hi]; exact hn⟩
    · rw [h1] at hi
      exact ⟨.inr ⟨f, a, h2, hi.symm⟩, by rw [h2]; rfl⟩
    · rw [h1] at hi; rw [← hi] at hn; cases hn
    · rw [h1] at hi; rw [← hi] at hn; cases hn
    · rw [h1] at hi; rw [← hi] at hn; cases hn
  clear hn hi hc
  have hc := h0
  have hn := hnj
  suffices h : ∃ c fz, o.op = .call c ∧ compCall P fz c = some j by
    obtain ⟨c, fz, h1, h2⟩ := h
    exact ⟨c, fz, j, h1, h2, hnj, hm⟩
  clear hm h0 hnj
  unfold compO0 at hc
  cases hop : o.op with
  | call c => rw [hop] at hc; exact ⟨c, _, rfl, hc⟩
  | _ =>
    rw [hop] at hc
    simp only at hc
    repeat' split at hc
    all_goals first
      | (cases hc; done)
      | (cases hc; cases hn; done)
      | contradiction
      | (obtain ⟨_, _, rfl⟩ := map_some hc; cases hn; done)

/-- What is read is no 'defer' statement. -/
theorem not_defer {d : Bool} {own : List Nat} {o : Oper} {i : IOp} {fr : FR} {ba lo : List Ob} {K : AV → List Ob → List Ob → Prop} (hc : compO P own o = some i) (h : opV P d i fr ba lo K) : ∀ c, o.op ≠ .defer c := by
  intro c e
  have h0 : compO0 P own o = none := by unfold compO0; rw [e]
  have hb : i = .bad := by
    unfold compO at hc
    rw [h0] at hc
    exact (Option.some.inj hc).symm
  subst hb
  exact (show False from h)

/-- A call, as an operation. -/
theorem call_op {o : Oper} {i : IOp} {own : List Nat} {K : AV → List Ob → List Ob → Prop} (hc : compO P own o = some i) (hn : isCall i = true) (h : opV P false i fr ba lo K) (hi : Inv μ w ba lo) (hr : Opnds o a μ w ba fr) {next : Act → World → Prop} {Q : Exit → Act → World → Prop}
    (hk : ∀ v r μ' w' ba' lo', VA ⟨blocks μ', ba.length, μ'⟩ w' v r → Inv μ' w' ba' lo' → Le μ w μ' w' → ba'.length = ba.length → K r ba' lo' → next (a.put o.dst v) w') : o.wpIn (FW ro) nd P a w next Q := by
  obtain ⟨c, fz, i', ho, hcc, hn', hii⟩ := isCall_out hc hn
  replace h : opV P false i' fr ba lo K := by
    rcases hii with rfl | ⟨f, a, rfl, rfl⟩
    · exact h
    · exact h
  clear hii hn hc
  have hn := hn'
  obtain ⟨callee, args, ats⟩ := c
  have enter : ∀ (f : Nat) (xs : Array Value) (as : List AV), (execOp a.eval o).run P w = .ok (.enter f xs) w → VAs ⟨blocks μ, ba.length, μ⟩ w xs as → CallVC P f as ba lo K → o.wpIn (FW ro) nd P a w next Q := fun f xs as h1 h2 h3 => by
    unfold Oper.wpIn
    refine ⟨fun _ _ => trivial, ?_⟩
    rw [Oper.semAt_eq _ _ _ (fun c e => by rw [ho] at e; cases e), h1]
    refine ⟨fun e => (by cases e), (calls_FW ro (nd - 1) (call_back h3 hi h2)).mono fun e w' hw => ?_⟩
    obtain ⟨v, r, μ', ba', lo', rfl, g1, g2, g3, g4, g5⟩ := hw
    exact hk v r μ' w' ba' lo' g1 g2 g3 g4 g5
  have argsV : ∀ {rs : List Rv}, rvs args.toList = some rs → VAs ⟨blocks μ, ba.length, μ⟩ w (args.map a.eval) (rs.map fun r => evF r fr) := fun {rs} hrs => by
    obtain ⟨a1, a2⟩ := rvs_sound fr (a := a) (w := w) (Γ := ⟨blocks μ, ba.length, μ⟩) hrs (fun x r hm hxr => hr x r (by rw [ho]; simp [Op.operands, Call.operands]; simp at hm; simp [hm]) hxr)
    exact ⟨by simpa using a1, fun j x c hj hcj => a2 j x c (by simpa using hj) hcj⟩
  unfold compCall at hcc
  simp only at hcc
  split at hcc
  · repeat' split at hcc
    all_goals first
      | (cases hcc; cases hn; done)
      | (obtain ⟨_, _, rfl⟩ := map_some hcc; cases hn; done)
      | cases hcc
  · repeat' split at hcc
    all_goals first
      | (cases hcc; cases hn; done)
      | (obtain ⟨_, _, rfl⟩ := map_some hcc; cases hn; done)
      | cases hcc
  · repeat' split at hcc
    all_goals first
      | (cases hcc; cases hn; done)
      | (obtain ⟨_, _, rfl⟩ := map_some hcc; cases hn; done)
      | cases hcc
  · repeat' split at hcc
    all_goals first
      | (cases hcc; cases hn; done)
      | (obtain ⟨_, _, rfl⟩ := map_some hcc; cases hn; done)
      | cases hcc
  · repeat' split at hcc
    all_goals first
      | (cases hcc; cases hn; done)
      | (obtain ⟨_, _, rfl⟩ := map_some hcc; cases hn; done)
      | cases hcc
  · repeat' split at hcc
    all_goals first
      | (cases hcc; cases hn; done)
      | (obtain ⟨_, _, rfl⟩ := map_some hcc; cases hn; done)
      | cases hcc
  · rename_i f
    split at hcc
    · rename_i hen
      obtain ⟨rs, hrs, rfl⟩ := map_some hcc
      simp only [opV, evsK_eq] at h
      refine enter f (args.map a.eval) _ ?_ (argsV hrs) h
      simp [execOp, ho, resolve, Act.eval, Deferred.ofValue, invoke, enters_run hen]
    · obtain ⟨rs, hrs, rfl⟩ := map_some hcc; cases hn
  · rename_i t
    obtain ⟨rs, hrs, rfl⟩ := map_some hcc
    simp only [opV, evK_eq, evsK_eq] at h
    have hv : VA ⟨blocks μ, ba.length, μ⟩ w (a.tmps.getD t undef) (getF fr t) := hr (.tmp t) (.t t) (by rw [ho]; simp [Op.operands, Call.operands]) rfl
    split at h
    · rename_i l e1
      rw [show getF fr t = _ from e1] at hv
      have hp := hv.pv
      generalize hx : a.tmps.getD t undef = x at hp
      cases hp
      obtain ⟨fn, tmps, assign, body, hy, hround⟩ := h.out (nd - 1) μ w _ hi (argsV hrs)
      have hx' : a.eval (.tmp t) = .func (.yield l) #[] #[] := hx
      unfold Oper.wpIn
      refine ⟨fun _ _ => trivial, ?_⟩
      rw [Oper.semAt_eq _ _ _ (fun c e => by rw [ho] at e; cases e)]
      have hrun : (execOp a.eval o).run P w = .ok (.round l fn tmps assign body) w := by
        simp [execOp, ho, resolve, hx', Deferred.ofValue, invoke, hy]
      rw [hrun]
      refine ⟨fun e => (by cases e), RoundIn.mono (F := FW ro) hround fun e w' hw => ?_⟩
      obtain ⟨v, r, μ', ba', lo', rfl, g1, g2, g3, g4, g5⟩ := hw
      exact hk v r μ' w' ba' lo' g1 g2 g3 g4 g5
    · rename_i f e1
      obtain ⟨hen, h⟩ := h
      rw [show getF fr t = _ from e1] at hv
      have hp := hv.pv
      generalize hx : a.tmps.getD t undef = x at hp
      cases hp
      refine enter f (args.map a.eval) _ ?_ (argsV hrs) h
      have hx' : a.eval (.tmp t) = .func (.func f) #[] #[] := hx
      simp [execOp, ho, resolve, hx', Deferred.ofValue, invoke, enters_run hen]
    · rename_i f as bs e1
      obtain ⟨hen, h⟩ := h
      rw [show getF fr t = _ from e1] at hv
      generalize hx : a.tmps.getD t undef = x at hv
      cases hv with
      | clos _ xs ys _ _ h1 h2 h3 h4 =>
        have hx' : a.eval (.tmp t) = .func (.func f) xs ys := hx
        obtain ⟨q1, q2⟩ := argsV hrs
        refine enter f (xs ++ args.map a.eval ++ ys) _ (by simp [execOp, ho, resolve, hx', Deferred.ofValue, invoke, enters_run hen]) ?_ h
        refine ⟨by simp only [Array.size_append, List.length_append, h1, h2, q1], fun j x c hj hcj => ?_⟩
        rw [Array.append_assoc] at hj
        rw [List.append_assoc] at hcj
        rcases Nat.lt_or_ge j as.length with hl | hl
        · rw [Array.getElem?_append_left (by omega)] at hj
          rw [List.getElem?_append_left hl] at hcj
          exact h3 j x c hj hcj
        · rw [Array.getElem?_append_right (by omega), h1] at hj
          rw [List.getElem?_append_right hl] at hcj
          rcases Nat.lt_or_ge (j - as.length) (rs.map fun r => evF r fr).length with hl2 | hl2
          · rw [Array.getElem?_append_left (by rw [q1]; exact hl2)] at hj
            rw [List.getElem?_append_left hl2] at hcj
            exact q2 _ x c hj hcj
          · rw [Array.getElem?_append_right (by rw [q1]; exact hl2), q1] at hj
            rw [List.getElem?_append_right hl2] at hcj
            exact h4 _ x c hj hcj
    · exact h.elim
  · cases hcc

theorem raw_out {M : Nat → Prop} {w : World} {x u : Value} {v : PV} (h : rawV v = some u) (hv : VP M w x v) : x = u := by
  unfold rawV at h
  split at h
  · cases h; cases hv; rfl
  · rename_i k n j m
    cases h
    cases hv with
    | agg xs cs h1 h2 h3 =>
      have hx : xs = #[xs[0]'(by simp at h1; omega), xs[1]'(by simp at h1; omega)] := by
        apply Array.ext
        · simpa using h1
        · intro i hi1 hi2
          match i, hi2 with
          | 0, _ => rfl
          | 1, _ => rfl
      have e0 := h2 0 _ _ (Array.getElem?_eq_getElem (by simp at h1; omega)) rfl
      have e1 := h2 1 _ _ (Array.getElem?_eq_getElem (by simp at h1; omega)) rfl
      rw [hx]
      generalize xs[0]'(by simp at h1; omega) = a at e0
      generalize xs[1]'(by simp at h1; omega) = b at e1
      cases e0; cases e1; rfl
  · cases h
theorem compCall_call {c : Call} {fz : Bool} {f : Nat} {rs : List Rv} (h : compCall P fz c = some (.call f rs)) : c.callee = .value (.func f) ∧ rvs c.args.toList = some rs ∧ enters P f = true := by
  unfold compCall at h
  split at h
  all_goals try (repeat' split at h)
  all_goals try (cases h; done)
  all_goals try (obtain ⟨_, h1, h2⟩ := map_some h)
  all_goals try (cases h2; done)
  cases h2
  rename_i h3 h4
  exact ⟨h3, h1, h4⟩
theorem compCall_callv {c : Call} {fz : Bool} {x : Rv} {rs : List Rv} (h : compCall P fz c = some (.callv x rs)) : ∃ t, x = .t t ∧ c.callee = .value (.tmp t) ∧ rvs c.args.toList = some rs := by
  unfold compCall at h
  split at h
  all_goals try (repeat' split at h)
  all_goals try (cases h; done)
  all_goals try (obtain ⟨_, h1, h2⟩ := map_some h)
  all_goals try (cases h2; done)
  cases h2
  rename_i h3
  exact ⟨_, rfl, h3, h1⟩
theorem plain_call {o : Oper} {j : IOp} {own : List Nat} (h0 : compO0 P own o = some j) (hj : isCall j = true) (hE : ∀ f a, j ≠ .callE f a) : ∃ c fz, o.op = .call c ∧ compCall P fz c = some j := by
  unfold compO0 at h0
  cases hop : o.op with
  | call c => rw [hop] at h0; exact ⟨c, _, rfl, h0⟩
  | _ =>
    exfalso
    rw [hop] at h0
    simp only at h0
    repeat' split at h0
    all_goals first
      | (cases h0; done)
      | (cases h0; cases hj; done)
      | contradiction
      | (obtain ⟨_, _, rfl⟩ := map_some h0; cases hj; done)

/-- A call that may panic, as an operation. -/
theorem call_opP {o : Oper} {i : IOp} {own : List Nat} {K : AV → List Ob → List Ob → Prop} {X : XV} (hc : compO P own o = some i) (hn : isP i = true) (h : opVP P i fr ba lo K X) (hi : Inv μ w ba lo) (hr : Opnds o a μ w ba fr) {next : Act → World → Prop} {Q : Exit → Act → World → Prop}
    (hk : ∀ v r μ' w' ba' lo', VA ⟨blocks μ', ba.length, μ'⟩ w' v r → Inv μ' w' ba' lo' → Le μ w μ' w' → ba'.length = ba.length → K r ba' lo' → next (a.put o.dst v) w')
    (hx : ∀ ch μ' w' ba' lo', Inv μ' w' ba' lo' → Le μ w μ' w' → ba'.length = ba.length → X ch ba' lo' → Q (.panic ch) a w') : o.wpIn (FW ro) nd P a w next Q := by
  have enter : ∀ (c : Call) (f : Nat) (xs : Array Value) (as : List AV), o.op = .call c → (execOp a.eval o).run P w = .ok (.enter f xs) w → VAs ⟨blocks μ, ba.length, μ⟩ w xs as → CallPV P f as ba lo K X → o.wpIn (FW ro) nd P a w next Q := fun c f xs as ho h1 h2 h3 => by
    unfold Oper.wpIn
    refine ⟨fun _ _ => trivial, ?_⟩
    rw [Oper.semAt_eq _ _ _ (fun c e => by rw [ho] at e; cases e), h1]
    refine ⟨fun e => (by cases e), (calls_FW ro (nd - 1) (h3.out μ w xs hi h2)).mono fun e w' hw => ?_⟩
    rcases hw with ⟨v, r, μ', ba', lo', rfl, g1, g2, g3, g4, g5⟩ | ⟨ch, μ', ba', lo', rfl, g2, g3, g4, g5⟩
    · exact hk v r μ' w' ba' lo' g1 g2 g3 g4 g5
    · exact hx ch μ' w' ba' lo' g2 g3 g4 g5
  have argsV : ∀ {c : Call} {rs : List Rv}, o.op = .call c → rvs c.args.toList = some rs → VAs ⟨blocks μ, ba.length, μ⟩ w (c.args.map a.eval) (rs.map fun r => evF r fr) := fun {c rs} ho hrs => by
    obtain ⟨a1, a2⟩ := rvs_sound fr (a := a) (w := w) (Γ := ⟨blocks μ, ba.length, μ⟩) hrs (fun x r hm hxr => hr x r (by rw [ho]; simp [Op.operands, Call.operands]; simp at hm; simp [hm]) hxr)
    exact ⟨by simpa using a1, fun j x c hj hcj => a2 j x c (by simpa using hj) hcj⟩
  have hi' := Option.some.inj hc
  cases h0 : compO0 P own o with
  | none => rw [h0] at hi'; subst hi'; cases hn
  | some j =>
  rw [h0] at hi'
  simp only [Option.getD_some] at hi'
  rcases markE_out own o j with h1 | ⟨f, as, h2, h1⟩ | ⟨sz, _, h1⟩ | ⟨f, as, h2, h1⟩ | ⟨x, as, h2, h1⟩
  · -- a panic
    rw [h1] at hi'
    subst hi'
    have hthrow : ∃ x r, o.op = .panic x ∧ rv x = some r ∧ j = .throw r := by
      unfold compO0 at h0
      cases hop : o.op with
      | panic x =>
        rw [hop] at h0
        obtain ⟨r, e1, rfl⟩ := map_some h0
        exact ⟨x, r, rfl, e1, rfl⟩
      | call c =>
        exfalso
        rw [hop] at h0
        simp only at h0
        unfold compCall at h0
        repeat' split at h0
        all_goals first
          | (cases h0; done)
          | (cases h0; cases hn; done)
          | (obtain ⟨_, _, rfl⟩ := map_some h0; cases hn; done)
      | _ =>
        exfalso
        rw [hop] at h0
        simp only at h0
        repeat' split at h0
        all_goals first
          | (cases h0; done)
          | (cases h0; cases hn; done)
          | contradiction
          | (obtain ⟨_, _, rfl⟩ := map_some h0; cases hn; done)
    obtain ⟨x, r, ho, hr1, rfl⟩ := hthrow
    simp only [opVP, evK_eq] at h
    split at h
    · rename_i tt v e1
      obtain ⟨u, hu, hxx⟩ := h
      have hv := (hr.get (by simp [ho, Op.operands]) hr1 e1).pv
      have hnn : a.eval x = .iface tt u := by
        generalize a.eval x = y at hv
        cases hv with
        | iface _ y v hv => rw [raw_out hu hv]
      unfold Oper.wpIn
      refine ⟨fun _ _ => trivial, ?_⟩
      rw [Oper.semAt_eq _ _ _ (fun c e => by rw [ho] at e; cases e)]
      have hrun : (execOp a.eval o).run P w = .halt (.panic (.iface tt u)) w := by
        simp [execOp, ho, hnn, Instr.panic, goPanic]
      rw [hrun]
      exact hx _ μ w ba lo hi (.refl _ _) rfl hxx
    · exact h.elim
  · rw [h1] at hi'; subst hi'; cases hn
  · rw [h1] at hi'; subst hi'; cases hn
  · rw [h1] at hi'
    subst hi'
    subst h2
    obtain ⟨c, fz, ho, hcc⟩ := plain_call h0 rfl (fun _ _ e => by cases e)
    obtain ⟨k1, k2, k3⟩ := compCall_call hcc
    simp only [opVP, evsK_eq] at h
    refine enter c f (c.args.map a.eval) _ ho ?_ (argsV ho k2) h
    obtain ⟨callee, args, ats⟩ := c
    simp only at k1
    subst k1
    simp [execOp, ho, resolve, Act.eval, Deferred.ofValue, invoke, enters_run k3]
  · rw [h1] at hi'
    subst hi'
    subst h2
    obtain ⟨c, fz, ho, hcc⟩ := plain_call h0 rfl (fun _ _ e => by cases e)
    obtain ⟨t, rfl, k1, k2⟩ := compCall_callv hcc
    obtain ⟨callee, args, ats⟩ := c
    simp only at k1
    subst k1
    simp only [opVP, evK_eq, evsK_eq] at h
    have hv : VA ⟨blocks μ, ba.length, μ⟩ w (a.tmps.getD t undef) (getF fr t) := hr (.tmp t) (.t t) (by rw [ho]; simp [Op.operands, Call.operands]) rfl
    split at h
    · rename_i f e1
      obtain ⟨hen, h⟩ := h
      rw [show getF fr t = _ from e1] at hv
      have hp := hv.pv
      generalize hx : a.tmps.getD t undef = x at hp
      cases hp
      refine enter _ f (args.map a.eval) _ ho ?_ (argsV ho k2) h
      have hx' : a.eval (.tmp t) = .func (.func f) #[] #[] := hx
      simp [execOp, ho, resolve, hx', Deferred.ofValue, invoke, enters_run hen]
    · rename_i f as bs e1
      obtain ⟨hen, h⟩ := h
      rw [show getF fr t = _ from e1] at hv
      generalize hx : a.tmps.getD t undef = x at hv
      cases hv with
      | clos _ xs ys _ _ h1 h2 h3 h4 =>
        have hx' : a.eval (.tmp t) = .func (.func f) xs ys := hx
        obtain ⟨q1, q2⟩ := argsV ho k2
        refine enter _ f (xs ++ args.map a.eval ++ ys) _ ho (by simp [execOp, ho, resolve, hx', Deferred.ofValue, invoke, enters_run hen]) ?_ h
        refine ⟨by simp only [Array.size_append, List.length_append, h1, h2, q1], fun j x c hj hcj => ?_⟩
        rw [Array.append_assoc] at hj
        rw [List.append_assoc] at hcj
        rcases Nat.lt_or_ge j as.length with hl | hl
        · rw [Array.getElem?_append_left (by omega)] at hj
          rw [List.getElem?_append_left hl] at hcj
          exact h3 j x c hj hcj
        · rw [Array.getElem?_append_right (by omega), h1] at hj
          rw [List.getElem?_append_right hl] at hcj
          rcases Nat.lt_or_ge (j - as.length) (args.map a.eval).size with hl2 | hl2
          · rw [Array.getElem?_append_left hl2] at hj
            rw [List.getElem?_append_left (by rw [← q1]; exact hl2)] at hcj
            exact q2 _ x c hj hcj
          · rw [Array.getElem?_append_right hl2] at hj
            rw [List.getElem?_append_right (by rw [← q1]; exact hl2), ← q1] at hcj
            exact h4 _ x c hj hcj
    · exact h.elim

/-- OPERATIONS IN THEIR ORDER. -/
theorem ops_sound {own : List Nat} {all : List Oper} {Q : Exit → Act → World → Prop} {K : FR → List Ob → List Ob → Prop} : ∀ (l : List Oper) (is : List IO_) (i : Nat), all.drop i = l → compOps P N own all i l = some is → ∀ {fr : FR} {ba lo : List Ob}, opsV P false is fr ba lo K →
    ∀ {μ : List MI} {w : World} {a : Act}, Rel N B T μ w a fr ba lo → (∀ fr' ba' lo' μ' w' a', K fr' ba' lo' → Rel N B T μ' w' a' fr' ba' lo' → Le μ w μ' w' → ba'.length = ba.length → Q .normal a' w') → wpOpsIn (FW ro) nd P all.toArray Q (List.range' i l.length) a w
  | [], is, i, _, hc, fr, ba, lo, h, μ, w, a, hr, hq => by
    cases hc
    exact hq fr ba lo μ w a h hr (.refl _ _) rfl
  | o :: l, is, i, hd, hc, fr, ba, lo, h, μ, w, a, hr, hq => by
    simp only [compOps] at hc
    split at hc
    · rename_i io ios hio hios
      cases hc
      have hgo : all[i]? = some o := by
        have : (all.drop i)[0]? = some o := by rw [hd]; rfl
        rwa [List.getElem?_drop] at this
      have hd' : all.drop (i + 1) = l := by
        have : all.drop (i + 1) = (all.drop i).drop 1 := by rw [List.drop_drop]
        rw [this, hd]; rfl
      obtain ⟨c1, c2, c3, c4⟩ := compI_out hio
      have rest : ∀ {v : AV} {c : Value} {μ' : List MI} {w' : World} {ba' lo' : List Ob}, VA ⟨blocks μ', ba.length, μ'⟩ w' c v → Inv μ' w' ba' lo' → Le μ w μ' w' → ba'.length = ba.length → opsV P false ios (putF fr io.dst v) ba' lo' K →
          wpOpsIn (FW ro) nd P all.toArray Q (List.range' (i + 1) l.length) (a.put o.dst c) w' := fun {v c μ' w' ba' lo'} g1 g2 g3 g4 g5 => by
        rw [c3] at g5
        exact ops_sound l ios (i + 1) hd' hios g5 (hr.put c1 g2 g3 g4 g1) fun fr' ba'' lo'' μ'' w'' a' k1 k2 k3 k4 => hq fr' ba'' lo'' μ'' w'' a' k1 k2 (g3.trans k3) (k4.trans g4)
      simp only [List.length_cons, List.range'_succ, wpOpsIn]
      have hgo' : all.toArray[i]? = some o := by simpa using hgo
      simp only [hgo']
      rcases opsV_cons h with ⟨hg, h⟩ | ⟨t, b, hg, hv, h⟩
      · rw [if_pos (wanted_of hio fun t b e => by have hv := hr.vals t; rw [hg t b e] at hv; exact hv.bool_inv)]
        cases hn : isCall io.op with
        | true => exact call_op c2 hn h hr.inv (hr.opnds o) fun v r μ' w' ba' lo' g1 g2 g3 g4 g5 => rest g1 g2 g3 g4 (nextK_out g5)
        | false =>
          obtain ⟨v, ba', lo', hk, hgv⟩ := op_out c2 hn h
          obtain ⟨c, w', μ', hrun, g1, g2, g3, g4⟩ := hgv μ w a hr.inv (hr.opnds o)
          unfold Oper.wpIn
          refine ⟨fun _ _ => trivial, ?_⟩
          rw [Oper.semAt_eq _ _ _ (not_defer c2 h)]
          rcases hrun with hrun | ⟨hrun, rfl⟩
          · rw [hrun, Oper.uponIn_value]; exact rest g1 g2 g3 g4 (nextK_out hk)
          · rw [hrun, Oper.uponIn_skip]; exact rest g1 g2 g3 g4 (nextK_out hk)
      · rw [if_neg (by rw [unwanted_of hio hg ((hr.vals t).unw hv)]; simp)]
        exact ⟨fun _ _ => trivial, rest (.skip _ _) hr.inv (.refl _ _) rfl h⟩
    · cases hc

/-- Operations in their order, of which some may panic. -/
def nextPK (P : Program) (o : IO_) (r : List IO_) (fr : FR) (K : FR → List Ob → List Ob → Prop) (X : XV) (v : AV) (ba lo : List Ob) : Prop :=
  match o.split with
  | false => putK fr o.dst v fun fr => opsPV P r fr ba lo K X
  | true => match v with
    | .p (.bool b) => splitB b fun b => putK fr o.dst (.p (.bool b)) fun fr => opsPV P r fr ba lo K X
    | _ => False
theorem nextPK_out {o : IO_} {r : List IO_} {K : FR → List Ob → List Ob → Prop} {X : XV} {v : AV} (h : nextPK P o r fr K X v ba lo) : opsPV P r (putF fr o.dst v) ba lo K X := by
  unfold nextPK at h
  split at h
  · rwa [putK_eq] at h
  · split at h
    · have := splitB_out h
      rwa [putK_eq] at this
    · exact h.elim
theorem opsPV_cons {o : IO_} {r : List IO_} {K : FR → List Ob → List Ob → Prop} {X : XV} (h : opsPV P (o :: r) fr ba lo K X) :
    ((∀ t b, o.guard = some (t, b) → getF fr t = .p (.bool b)) ∧ opVP P o.op fr ba lo (nextPK P o r fr K X) X) ∨
    (∃ t b, o.guard = some (t, b) ∧ Unw (getF fr t) b ∧ opsPV P r (putF fr o.dst (.p (.tup []))) ba lo K X) := by
  replace h : opsPStep P o (opsPV P r) fr ba lo K X := h
  unfold opsPStep at h
  split at h
  · rename_i hg
    exact .inl ⟨fun t b e => (by rw [hg] at e; cases e), h⟩
  · rename_i t b hg
    rw [getK_eq] at h
    split at h
    · have e : getF fr t = .p (.bool true) := by assumption
      exact .inl ⟨fun t' b' e' => (by rw [hg] at e'; cases e'; exact e), h⟩
    · have e : getF fr t = .p (.bool false) := by assumption
      exact .inl ⟨fun t' b' e' => (by rw [hg] at e'; cases e'; exact e), h⟩
    · have e : getF fr t = .p (.bool true) := by assumption
      rw [putK_eq] at h
      exact .inr ⟨t, false, hg, by rw [e]; exact .bool true, h⟩
    · have e : getF fr t = .p (.bool false) := by assumption
      rw [putK_eq] at h
      exact .inr ⟨t, true, hg, by rw [e]; exact .bool false, h⟩
    · have e : getF fr t = .p (.tup []) := by assumption
      rw [putK_eq] at h
      exact .inr ⟨t, true, hg, by rw [e]; exact .skip _, h⟩
    · have e : getF fr t = .p (.tup []) := by assumption
      rw [putK_eq] at h
      exact .inr ⟨t, false, hg, by rw [e]; exact .skip _, h⟩
    · exact h.elim
theorem opVP_plain {i : IOp} (hn : isP i = false) {K : AV → List Ob → List Ob → Prop} {X : XV} (h : opVP P i fr ba lo K X) : opV P false i fr ba lo K := by
  cases i <;> first | exact h | cases hn

theorem get_drop (ds : List Nat) : ∀ (fr : FR) (t : Nat), getF (dropF ds fr) t = if memN t ds = true then .p .undef else getF fr t
  | [], t => by simp [dropF, getF]
  | (u, x) :: r, t => by
    have ih := get_drop ds r t
    unfold dropF
    cases hu : memN u ds with
    | true =>
      simp only [cond_true]
      rw [ih]
      by_cases ht : memN t ds = true
      · rw [if_pos ht, if_pos ht]
      · rw [if_neg ht, if_neg ht, getF]
        cases hb : Nat.beq u t with
        | true => rw [Nat.eq_of_beq_eq_true hb] at hu; exact absurd hu ht
        | false => rfl
    | false =>
      simp only [cond_false, getF]
      cases hb : Nat.beq u t with
      | true => rw [Nat.eq_of_beq_eq_true hb] at hu; simp [hu]
      | false => simp only [cond_false]; exact ih
theorem Rel.weak {N B : Nat} {T : List Deferred} {μ : List MI} {w : World} {a : Act} {fr fr' : FR} {ba lo : List Ob} (h : Rel N B T μ w a fr ba lo) (k : ∀ t, getF fr' t = getF fr t ∨ getF fr' t = .p .undef) : Rel N B T μ w a fr' ba lo :=
  ⟨h.inv, h.size, h.base, h.defers, fun t => by
    rcases k t with e | e
    · rw [e]; exact h.vals t
    · rw [e]; exact .p _ _ (.undef _)⟩
theorem drop_rest (o : IO_) (r : List IO_) (fr : FR) (v : AV) (t : Nat) : getF (dropF (dstsI (o :: r)) fr) t = getF (dropF (dstsI r) (putF fr o.dst v)) t ∨ getF (dropF (dstsI (o :: r)) fr) t = .p .undef := by
  rw [get_drop, get_drop]
  cases hd : o.dst with
  | none =>
    have e : dstsI (o :: r) = dstsI r := by simp [dstsI, hd]
    rw [e]; exact .inl rfl
  | some d =>
    have e : dstsI (o :: r) = d :: dstsI r := by simp [dstsI, hd]
    rw [e]
    by_cases hdt : d = t
    · right
      rw [if_pos (by subst hdt; simp [memN])]
    · left
      have hm : memN t (d :: dstsI r) = memN t (dstsI r) := by
        have hb : Nat.beq d t = false := by rw [Bool.eq_false_iff]; exact fun e => hdt (Nat.eq_of_beq_eq_true e)
        rw [memN, hb]; rfl
      rw [hm]
      simp only [putF]
      rw [get_set, if_neg hdt]

theorem pops_sound {own : List Nat} {all : List Oper} {Q : Exit → Act → World → Prop} {K : FR → List Ob → List Ob → Prop} {X : XV} : ∀ (l : List Oper) (is : List IO_) (i : Nat), all.drop i = l → compOps P N own all i l = some is → ∀ {fr : FR} {ba lo : List Ob}, opsPV P is fr ba lo K X →
    ∀ {μ : List MI} {w : World} {a : Act}, Rel N B T μ w a fr ba lo → (∀ fr' ba' lo' μ' w' a', K fr' ba' lo' → Rel N B T μ' w' a' fr' ba' lo' → Le μ w μ' w' → ba'.length = ba.length → Q .normal a' w') →
      (∀ ch ba' lo' μ' w' a', X ch ba' lo' → Rel N B T μ' w' a' (dropF (dstsI is) fr) ba' lo' → Le μ w μ' w' → ba'.length = ba.length → Q (.panic ch) a' w') → wpOpsIn (FW ro) nd P all.toArray Q (List.range' i l.length) a w
  | [], is, i, _, hc, fr, ba, lo, h, μ, w, a, hr, hq, hx => by
    cases hc
    exact hq fr ba lo μ w a h hr (.refl _ _) rfl
  | o :: l, is, i, hd, hc, fr, ba, lo, h, μ, w, a, hr, hq, hx => by
    simp only [compOps] at hc
    split at hc
    · rename_i io ios hio hios
      cases hc
      have hgo : all[i]? = some o := by
        have : (all.drop i)[0]? = some o := by rw [hd]; rfl
        rwa [List.getElem?_drop] at this
      have hd' : all.drop (i + 1) = l := by
        have : all.drop (i + 1) = (all.drop i).drop 1 := by rw [List.drop_drop]
        rw [this, hd]; rfl
      obtain ⟨c1, c2, c3, c4⟩ := compI_out hio
      have rest : ∀ {v : AV} {c : Value} {μ' : List MI} {w' : World} {ba' lo' : List Ob}, VA ⟨blocks μ', ba.length, μ'⟩ w' c v → Inv μ' w' ba' lo' → Le μ w μ' w' → ba'.length = ba.length → opsPV P ios (putF fr io.dst v) ba' lo' K X →
          wpOpsIn (FW ro) nd P all.toArray Q (List.range' (i + 1) l.length) (a.put o.dst c) w' := fun {v c μ' w' ba' lo'} g1 g2 g3 g4 g5 => by
        rw [c3] at g5
        exact pops_sound l ios (i + 1) hd' hios g5 (hr.put c1 g2 g3 g4 g1) (fun fr' ba'' lo'' μ'' w'' a' k1 k2 k3 k4 => hq fr' ba'' lo'' μ'' w'' a' k1 k2 (g3.trans k3) (k4.trans g4))
          fun ch ba'' lo'' μ'' w'' a' k1 k2 k3 k4 => hx ch ba'' lo'' μ'' w'' a' k1 (k2.weak fun t => by rw [← c3]; exact drop_rest io ios fr v t) (g3.trans k3) (k4.trans g4)
      simp only [List.length_cons, List.range'_succ, wpOpsIn]
      have hgo' : all.toArray[i]? = some o := by simpa using hgo
      simp only [hgo']
      rcases opsPV_cons h with ⟨hg, h⟩ | ⟨t, b, hg, hv, h⟩
      · rw [if_pos (wanted_of hio fun t b e => by have hv := hr.vals t; rw [hg t b e] at hv; exact hv.bool_inv)]
        cases hp : isP io.op with
        | true =>
          refine call_opP c2 hp h hr.inv (hr.opnds o) (fun v r μ' w' ba' lo' g1 g2 g3 g4 g5 => rest g1 g2 g3 g4 (nextPK_out g5)) fun ch μ' w' ba' lo' g2 g3 g4 g5 => hx ch ba' lo' μ' w' a g5 ?_ g3 g4
          have := hr.put (d := none) (v := .p .undef) (c := undef) (fun t e => by cases e) g2 g3 g4 (.p _ _ (.undef _))
          exact this.weak fun t => by
            rw [get_drop]
            split
            · exact .inr rfl
            · exact .inl rfl
        | false =>
        replace h := opVP_plain hp h
        cases hn : isCall io.op with
        | true => exact call_op c2 hn h hr.inv (hr.opnds o) fun v r μ' w' ba' lo' g1 g2 g3 g4 g5 => rest g1 g2 g3 g4 (nextPK_out g5)
        | false =>
          obtain ⟨v, ba', lo', hk, hgv⟩ := op_out c2 hn h
          obtain ⟨c, w', μ', hrun, g1, g2, g3, g4⟩ := hgv μ w a hr.inv (hr.opnds o)
          unfold Oper.wpIn
          refine ⟨fun _ _ => trivial, ?_⟩
          rw [Oper.semAt_eq _ _ _ (not_defer c2 h)]
          rcases hrun with hrun | ⟨hrun, rfl⟩
          · rw [hrun, Oper.uponIn_value]; exact rest g1 g2 g3 g4 (nextPK_out hk)
          · rw [hrun, Oper.uponIn_skip]; exact rest g1 g2 g3 g4 (nextPK_out hk)
      · rw [if_neg (by rw [unwanted_of hio hg ((hr.vals t).unw hv)]; simp)]
        exact ⟨fun _ _ => trivial, rest (.skip _ _) hr.inv (.refl _ _) rfl h⟩
    · cases hc

end
end Go.Proofs.YtgdimfogijfmiaaDoor.AD

namespace Go.Proofs.YtgdimfogijfmiaaDoor.AD
set_option linter.unusedVariables false
set_option linter.unusedSimpArgs false

/-! Readers: what is asked is asked of one thing. -/

theorem atK_ext {α : Type} {n : Nat} {l X : List α} {k : α → Prop} (h : atK n l k) : atK n (l ++ X) k := by
  obtain ⟨x, h1, h2⟩ := atK_out n l k h
  exact atK_in _ _ _ x (by rw [List.getElem?_append_left (get_lt h1)]; exact h1) h2

theorem allPK_map : ∀ (ps : List PV) (k : List PV → Prop) (e : Prop), allPK (ps.map AV.p) k e = k ps
  | [], k, e => rfl
  | p :: r, k, e => allPK_map r _ _

theorem allPK_pt : ∀ (cs : List AV), (∃ ps, cs = ps.map AV.p ∧ ∀ (k : List PV → Prop) (e : Prop), allPK cs k e = k ps) ∨ ∀ (k : List PV → Prop) (e : Prop), allPK cs k e = e
  | [] => .inl ⟨[], rfl, fun k e => rfl⟩
  | a :: r => by
    cases a with
    | p c =>
      rcases allPK_pt r with ⟨ps, h1, h2⟩ | h
      · exact .inl ⟨c :: ps, by rw [h1]; rfl, fun k e => h2 _ _⟩
      · exact .inr fun k e => h _ _
    | _ => exact .inr fun k e => rfl
theorem mkAggK_pt (cs : List AV) : ∃ a, ∀ k, mkAggK cs k = k a := by
  rcases allPK_pt cs with ⟨ps, h1, h2⟩ | h
  · exact ⟨_, fun k => h2 _ _⟩
  · exact ⟨_, fun k => h _ _⟩
theorem scalarsK_pt : ∀ (cs : List AV) (k : List AV → Prop), scalarsK cs k → ∀ k' : List AV → Prop, k' cs → scalarsK cs k'
  | [], k, h, k', h2 => h2
  | a :: r, k, h, k', h2 => by
    simp only [scalarsK] at h ⊢
    split at h
    · exact scalarsK_pt r _ h _ h2
    · exact h.elim
theorem cellsK_pt {v : AV} {k : List AV → Prop} (h : cellsK v k) : ∃ cs, k cs ∧ ∀ k' : List AV → Prop, k' cs → cellsK v k' := by
  unfold cellsK at h ⊢
  split at h
  · rw [upPK_eq] at h
    exact ⟨_, (scalarsK_out _ _ h).2, fun k' h2 => by rw [upPK_eq]; exact scalarsK_pt _ _ h _ h2⟩
  · exact ⟨_, (scalarsK_out _ _ h).2, fun k' h2 => scalarsK_pt _ _ h _ h2⟩
  · exact ⟨_, (scalarsK_out _ _ h).2, fun k' h2 => scalarsK_pt _ _ h _ h2⟩
theorem cellsPK_pt {e : PV} {k : List PV → Prop} (h : cellsPK e k) : ∃ cs, k cs ∧ ∀ k' : List PV → Prop, k' cs → cellsPK e k' := by
  unfold cellsPK at h ⊢
  split at h
  · exact ⟨_, h, fun k' h2 => h2⟩
  · exact h.elim
  · exact h.elim
  · exact ⟨_, h, fun k' h2 => h2⟩
theorem readPK_pt {n : Option Nat} {cs : List PV} {k : AV → Prop} (h : readPK n cs k) : ∃ v, k v ∧ ∀ k' : AV → Prop, k' v → readPK n cs k' := by
  unfold readPK at h ⊢
  cases n with
  | none => obtain ⟨x, r, rfl, hk⟩ := headK_out h; exact ⟨_, hk, fun k' h2 => h2⟩
  | some n => obtain ⟨h1, h2⟩ := takeK_out _ _ _ h; exact ⟨_, h2, fun k' h3 => takeK_in _ _ _ h1 h3⟩
theorem readAK_pt {n : Option Nat} {cs : List AV} {k : AV → Prop} (h : readAK n cs k) : ∃ v, k v ∧ ∀ k' : AV → Prop, k' v → readAK n cs k' := by
  unfold readAK at h ⊢
  cases n with
  | none => obtain ⟨x, r, rfl, hk⟩ := headK_out h; exact ⟨_, hk, fun k' h2 => h2⟩
  | some n =>
    obtain ⟨h1, h2⟩ := takeK_out _ _ _ h
    obtain ⟨a, h3⟩ := mkAggK_pt (cs.take n)
    simp only [h3] at h2
    exact ⟨_, h2, fun k' h4 => takeK_in _ _ _ h1 (by rw [h3]; exact h4)⟩
theorem fillK_pt : ∀ (l : List (Nat × Nat × AV)) (cs : List AV) {k : List AV → Prop}, fillK l cs k → ∃ v, k v ∧ ∀ k' : List AV → Prop, k' v → fillK l cs k'
  | [], cs, k, h => ⟨_, h, fun k' h2 => h2⟩
  | (off, n, v) :: r, cs, k, h => by
    simp only [fillK] at h ⊢
    obtain ⟨news, h, h1⟩ := cellsK_pt h
    cases hb : Nat.beq news.length n with
    | false => rw [hb] at h; exact h.elim
    | true =>
      rw [hb] at h
      obtain ⟨h2, h⟩ := spliceK_out _ _ _ _ h
      obtain ⟨v, hk, h3⟩ := fillK_pt r _ h
      exact ⟨v, hk, fun k' h4 => h1 _ (by rw [hb]; exact spliceK_in _ _ _ _ h2 (h3 _ h4))⟩
theorem litK_pt (sz : Nat) : ∀ (l : List (Nat × Rv)) (fr : FR) (es : List PV) {k : List PV → Prop}, litK sz l fr es k → ∃ v, k v ∧ ∀ k' : List PV → Prop, k' v → litK sz l fr es k'
  | [], fr, es, k, h => ⟨_, h, fun k' h2 => h2⟩
  | (i, x) :: r, fr, es, k, h => by
    simp only [litK, evK_eq] at h ⊢
    split at h
    · rename_i e he
      obtain ⟨cs, h, h1⟩ := cellsPK_pt h
      cases hb : Nat.beq cs.length sz with
      | false => rw [hb] at h; exact h.elim
      | true =>
        rw [hb] at h
        obtain ⟨h2, h⟩ := setAtK_out _ _ _ _ h
        obtain ⟨v, hk, h3⟩ := litK_pt sz r fr _ h
        exact ⟨v, hk, fun k' h4 => by
          exact h1 _ (by rw [hb]; exact setAtK_in _ _ _ _ h2 (h3 _ h4))⟩
    · exact h.elim

theorem kindK_pt {j k : IntKind} {K : Prop} (h : kindK j k K) : K ∧ ∀ K' : Prop, K' → kindK j k K' := by
  cases j <;> cases k <;> first | exact ⟨h, fun K' h => h⟩ | exact h.elim
theorem binI_pt {op : BinOp} {k : IntKind} {a b : Int} {K : AV → Prop} (h : binI op k a b K) : ∃ v, K v ∧ ∀ K' : AV → Prop, K' v → binI op k a b K' := by
  cases op <;> simp only [binI] at h ⊢ <;> first
    | exact ⟨_, h.2, fun K' h2 => ⟨h.1, h2⟩⟩
    | exact ⟨_, h, fun K' h2 => h2⟩
theorem binS_pt {op : BinOp} {a b : ByteArray} {K : AV → Prop} (h : binS op a b K) : ∃ v, K v ∧ ∀ K' : AV → Prop, K' v → binS op a b K' := by
  cases op <;> simp only [binS] at h ⊢ <;> first
    | exact ⟨_, h.2, fun K' h2 => ⟨h.1, h2⟩⟩
    | exact ⟨_, h, fun K' h2 => h2⟩
    | exact h.elim
theorem binK_pt {op : BinOp} {x y : AV} {K : AV → Prop} (h : binK op x y K) : ∃ v, K v ∧ ∀ K' : AV → Prop, K' v → binK op x y K' := by
  unfold binK at h ⊢
  split at h
  · cases hs : isShift op with
    | true => rw [hs] at h; exact binI_pt h
    | false =>
      rw [hs] at h
      obtain ⟨h1, h2⟩ := kindK_pt h
      obtain ⟨v, h3, h4⟩ := binI_pt h1
      exact ⟨v, h3, fun K' h5 => h2 _ (h4 _ h5)⟩
  · exact binS_pt h
  · exact h.elim

theorem aliveV_ext {r : Rf} {g : Nat} {ba lo X : List Ob} (h : aliveV r g ba lo) : aliveV r g ba (lo ++ X) := by
  cases r with
  | l m => exact atK_ext h
  | b id => exact h
theorem aliveE_ext {r : Rf} {g : Nat} {ba lo X : List Ob} (h : aliveE r g ba lo) : aliveE r g ba (lo ++ X) := by
  cases r with
  | l m => exact atK_ext h
  | b id => exact h

theorem contK_pt {sz : Nat} {y : AV} {ba lo : List Ob} {k : List PV → Prop} (h : contK sz y ba lo k) : ∃ ys, k ys ∧ ∀ (X : List Ob) (k' : List PV → Prop), k' ys → contK sz y ba (lo ++ X) k' := by
  unfold contK at h ⊢
  split at h
  · exact ⟨_, h, fun X k' h2 => h2⟩
  · exact ⟨_, h, fun X k' h2 => h2⟩
  · exact ⟨_, h, fun X k' h2 => h2⟩
  · exact ⟨_, h.2, fun X k' h2 => ⟨h.1, h2⟩⟩
  · exact ⟨_, h.2, fun X k' h2 => ⟨h.1, h2⟩⟩
  · obtain ⟨o, ho, h⟩ := atK_out _ _ _ h
    split at h
    · obtain ⟨h1, ys, h2, h3⟩ := h
      exact ⟨ys, h3, fun X k' h4 => atK_in _ _ _ _ (by rw [List.getElem?_append_left (get_lt ho)]; exact ho) (by exact ⟨h1, ys, h2, h4⟩)⟩
    · exact h.elim
  · obtain ⟨o, ho, h⟩ := atK_out _ _ _ h
    split at h
    · obtain ⟨h1, ys, h2, h3⟩ := h
      exact ⟨ys, h3, fun X k' h4 => atK_in _ _ _ _ ho (by exact ⟨h1, ys, h2, h4⟩)⟩
    · exact h.elim
  · exact h.elim

variable {P : Program}

theorem opV_quiet {d : Bool} {i : IOp} (he : effect i = 0) {fr : FR} {ba lo : List Ob} {K : AV → List Ob → List Ob → Prop} (h : opV P d i fr ba lo K) : ∃ v, K v ba lo ∧ ∀ (ba2 lo2 : List Ob) (K' : AV → List Ob → List Ob → Prop), K' v ba2 lo2 → opV P false i fr ba2 lo2 K' := by
  cases i <;> simp only [effect] at he <;> try (cases he; done)
  case mv x => simp only [opV, evK_eq] at h ⊢; exact ⟨_, h, fun _ _ _ h => h⟩
  case build zero parts =>
    simp only [opV, partsK_eq, upPK_eq] at h ⊢
    obtain ⟨cs, h, h1⟩ := fillK_pt _ _ h
    obtain ⟨a, h2⟩ := mkAggK_pt cs
    simp only [h2] at h
    exact ⟨a, h, fun _ _ K' hk => h1 _ (by rw [h2]; exact hk)⟩
  case lit own sz zero len parts =>
    cases own with
    | true => simp at he
    | false =>
      simp only [opV, repK_eq] at h ⊢
      obtain ⟨es, h, h1⟩ := litK_pt _ _ _ _ h
      exact ⟨_, h, fun _ _ K' hk => h1 _ hk⟩
  case bin op x y =>
    simp only [opV, evK_eq] at h ⊢
    obtain ⟨v, h, h1⟩ := binK_pt h
    exact ⟨v, h, fun _ _ K' hk => h1 _ hk⟩
  case mkI t x =>
    simp only [opV, evK_eq] at h ⊢
    split at h
    · exact ⟨_, h, fun _ _ K' hk => hk⟩
    · exact h.elim
  case isNilI neg x =>
    simp only [opV, evK_eq] at h ⊢
    split at h
    · exact ⟨_, h, fun _ _ K' hk => hk⟩
    · exact ⟨_, h, fun _ _ K' hk => hk⟩
    · exact h.elim
  case tas t x =>
    simp only [opV, evK_eq] at h ⊢
    split at h
    · exact ⟨_, h.2, fun _ _ K' hk => ⟨h.1, hk⟩⟩
    · exact h.elim
  case fld off n x =>
    simp only [opV, evK_eq] at h ⊢
    split at h
    · rename_i cs e
      obtain ⟨h1, h⟩ := dropK_out _ _ _ h
      obtain ⟨v, h, h2⟩ := readPK_pt h
      exact ⟨v, h, fun _ _ K' hk => dropK_in _ _ _ h1 (h2 _ hk)⟩
    · rename_i cs e
      obtain ⟨h1, h⟩ := dropK_out _ _ _ h
      obtain ⟨v, h, h2⟩ := readAK_pt h
      exact ⟨v, h, fun _ _ K' hk => dropK_in _ _ _ h1 (h2 _ hk)⟩
    · exact h.elim
  case max2 x y =>
    simp only [opV, evK_eq] at h ⊢
    split at h
    · rename_i k a j b e1 e2
      obtain ⟨h1, h2⟩ := kindK_pt h
      exact ⟨_, h1, fun _ _ K' hk => h2 _ hk⟩
    · exact h.elim
  case min2 x y =>
    simp only [opV, evK_eq] at h ⊢
    split at h
    · rename_i k a j b e1 e2
      obtain ⟨h1, h2⟩ := kindK_pt h
      exact ⟨_, h1, fun _ _ K' hk => h2 _ hk⟩
    · exact h.elim
  case boxF x =>
    simp only [opV, evK_eq] at h ⊢
    obtain ⟨cs, h, h1⟩ := cellsK_pt h
    rcases allPK_pt cs with ⟨ps, e, h2⟩ | h2
    · rw [h2] at h
      exact ⟨_, h, fun _ _ K' hk => h1 _ (by rw [h2]; exact hk)⟩
    · rw [h2] at h; exact h.elim
  case ext x j =>
    simp only [opV, evK_eq] at h ⊢
    split at h
    · rename_i vs e
      obtain ⟨v, h1, h2⟩ := atK_out _ _ _ h
      exact ⟨_, h2, fun _ _ K' hk => atK_in _ _ _ _ h1 hk⟩
    · rename_i vs e
      obtain ⟨v, h1, h2⟩ := atK_out _ _ _ h
      exact ⟨_, h2, fun _ _ K' hk => atK_in _ _ _ _ h1 hk⟩
    · exact h.elim
  case idxA sz len n x j =>
    simp only [opV, evK_eq] at h ⊢
    split at h
    · rename_i cs k j' e1 e2
      obtain ⟨h1, h⟩ := h
      cases n with
      | some n => exact ⟨_, h.2, fun _ _ K' hk => ⟨h1, h.1, hk⟩⟩
      | none => obtain ⟨c, h2, h⟩ := h; exact ⟨_, h, fun _ _ K' hk => ⟨h1, c, h2, hk⟩⟩
    · exact h.elim
  case idxS x j =>
    simp only [opV, evK_eq] at h ⊢
    split at h
    · rename_i t k j' e1 e2
      obtain ⟨c, h1, h⟩ := h
      exact ⟨_, h, fun _ _ K' hk => ⟨c, h1, hk⟩⟩
    · exact h.elim
  case cutS x l0 h0 =>
    simp only [opV, evK_eq, evOK_eq] at h ⊢
    split at h
    · rename_i t e1
      split at h
      all_goals first
        | exact h.elim
        | exact ⟨_, h.2, fun _ _ K' hk => ⟨h.1, hk⟩⟩
        | exact ⟨_, h, fun _ _ K' hk => hk⟩
    · exact h.elim
  case xcall f args =>
    simp only [opV, evsK_eq] at h ⊢
    rcases allPK_pt (args.map fun x => evF x fr) with ⟨ps, h1, h2⟩ | h2
    · simp only [h2] at h ⊢
      obtain ⟨e, hx, hk⟩ := h
      exact ⟨_, hk, fun _ _ K' hk => ⟨e, hx, hk⟩⟩
    · simp only [h2] at h
  case eqs neg x y =>
    simp only [opV, evK_eq] at h ⊢
    split at h
    · obtain ⟨q, h1, h⟩ := h
      exact ⟨_, h, fun _ _ K' hk => ⟨q, h1, hk⟩⟩
    · exact h.elim
  all_goals simp only [opV, evK_eq, evsK_eq] at h ⊢
  all_goals (repeat' split at h)
  all_goals first
    | exact h.elim
    | exact ⟨_, h.2, fun _ _ K' hk => ⟨h.1, hk⟩⟩
    | exact ⟨_, h, fun _ _ K' hk => hk⟩

theorem flat_append (ba lo X : List Ob) : flat ba (lo ++ X) = flat ba lo ++ X.map (Ob.close ba.length) := by simp [flat]

theorem callD_ext {f : Nat} {args : List AV} {ba lo : List Ob} {K : AV → List Ob → List Ob → Prop} (h : CallD P f args ba lo K) : ∃ v, K v ba lo ∧ ∀ (X : List Ob) (K' : AV → List Ob → List Ob → Prop), K' v ba (lo ++ X) → CallVC P f args ba (lo ++ X) K' := by
  obtain ⟨e, h1, h2⟩ := h.out
  exact ⟨_, h2, fun X K' hk => .pure (by rw [flat_append]; exact h1 _) hk⟩

theorem opV_reader {i : IOp} (he : effect i = 1) {fr : FR} {ba lo : List Ob} {K : AV → List Ob → List Ob → Prop} (h : opV P true i fr ba lo K) : ∃ v, K v ba lo ∧ ∀ (X : List Ob) (K' : AV → List Ob → List Ob → Prop), K' v ba (lo ++ X) → opV P false i fr ba (lo ++ X) K' := by
  have ext : ∀ {m : Nat} {o : Ob} {X : List Ob}, lo[m]? = some o → (lo ++ X)[m]? = some o := fun {m o X} h => by rw [List.getElem?_append_left (get_lt h)]; exact h
  cases i <;> simp only [effect] at he <;> try (cases he; done)
  case lit own sz zero len parts => cases own <;> simp at he
  case ofBytes x =>
    simp only [opV, evK_eq] at h ⊢
    obtain ⟨ys, ⟨l, h1, h⟩, h2⟩ := contK_pt h
    exact ⟨_, h, fun X K' hk => h2 _ _ ⟨l, h1, hk⟩⟩
  case load n x =>
    simp only [opV, evK_eq] at h ⊢
    split at h
    · obtain ⟨v, h, h2⟩ := readPK_pt h
      exact ⟨v, h, fun X K' hk => h2 _ hk⟩
    · obtain ⟨o, ho, h⟩ := atK_out _ _ _ h
      split at h
      · obtain ⟨h1, h⟩ := dropK_out _ _ _ h
        obtain ⟨v, h, h2⟩ := readAK_pt h
        exact ⟨v, h, fun X K' hk => atK_in _ _ _ _ (ext ho) (dropK_in _ _ _ h1 (h2 _ hk))⟩
      · exact h.elim
    · obtain ⟨o, ho, h⟩ := atK_out _ _ _ h
      split at h
      · obtain ⟨h1, h⟩ := dropK_out _ _ _ h
        obtain ⟨v, h, h2⟩ := readAK_pt h
        exact ⟨v, h, fun X K' hk => atK_in _ _ _ _ ho (dropK_in _ _ _ h1 (h2 _ hk))⟩
      · exact h.elim
    · obtain ⟨o, ho, h⟩ := atK_out _ _ _ h
      split at h
      · obtain ⟨h0, e, h1, h⟩ := h
        obtain ⟨cs, h, h2⟩ := cellsPK_pt h
        obtain ⟨h3, h⟩ := dropK_out _ _ _ h
        obtain ⟨v, h, h4⟩ := readPK_pt h
        exact ⟨v, h, fun X K' hk => atK_in _ _ _ _ (ext ho) (by exact ⟨h0, e, h1, h2 _ (dropK_in _ _ _ h3 (h4 _ hk))⟩)⟩
      · obtain ⟨h0, e, h1, h⟩ := h
        obtain ⟨v, h, h2⟩ := readAK_pt h
        exact ⟨v, h, fun X K' hk => atK_in _ _ _ _ (ext ho) (by exact ⟨h0, e, h1, h2 _ hk⟩)⟩
      · exact h.elim
    · obtain ⟨o, ho, h⟩ := atK_out _ _ _ h
      split at h
      · obtain ⟨h0, e, h1, h⟩ := h
        obtain ⟨cs, h, h2⟩ := cellsPK_pt h
        obtain ⟨h3, h⟩ := dropK_out _ _ _ h
        obtain ⟨v, h, h4⟩ := readPK_pt h
        exact ⟨v, h, fun X K' hk => atK_in _ _ _ _ ho (by exact ⟨h0, e, h1, h2 _ (dropK_in _ _ _ h3 (h4 _ hk))⟩)⟩
      · obtain ⟨h0, e, h1, h⟩ := h
        obtain ⟨v, h, h2⟩ := readAK_pt h
        exact ⟨v, h, fun X K' hk => atK_in _ _ _ _ ho (by exact ⟨h0, e, h1, h2 _ hk⟩)⟩
      · exact h.elim
    · exact h.elim
  case len x =>
    simp only [opV, evK_eq] at h ⊢
    split at h
    all_goals first
      | exact h.elim
      | exact ⟨_, h.2, fun X K' hk => ⟨aliveV_ext h.1, hk⟩⟩
      | exact ⟨_, h, fun X K' hk => hk⟩
  case fieldA off x =>
    simp only [opV, evK_eq] at h ⊢
    split at h
    all_goals first
      | exact h.elim
      | exact ⟨_, h.2, fun X K' hk => ⟨aliveE_ext h.1, hk⟩⟩
      | exact ⟨_, h, fun X K' hk => hk⟩
      | (obtain ⟨h1, h⟩ := dropK_out _ _ _ h; exact ⟨_, h, fun X K' hk => dropK_in _ _ _ h1 hk⟩)
  case elemA sz x j =>
    simp only [opV, evK_eq] at h ⊢
    split at h
    · obtain ⟨h0, e, h1, h⟩ := h
      obtain ⟨cs, h, h2⟩ := cellsPK_pt h
      exact ⟨_, h, fun X K' hk => ⟨h0, e, h1, h2 _ hk⟩⟩
    · obtain ⟨h0, e, h1, h⟩ := h
      obtain ⟨cs, h, h2⟩ := cellsPK_pt h
      exact ⟨_, h, fun X K' hk => ⟨h0, e, h1, h2 _ hk⟩⟩
    · exact ⟨_, h.2.2, fun X K' hk => ⟨h.1, aliveV_ext h.2.1, hk⟩⟩
    · exact ⟨_, h.2.2, fun X K' hk => ⟨h.1, aliveV_ext h.2.1, hk⟩⟩
    · exact h.elim
  case isNilS neg x =>
    simp only [opV, evK_eq] at h ⊢
    split at h
    all_goals first
      | exact h.elim
      | exact ⟨_, h.2, fun X K' hk => ⟨aliveV_ext h.1, hk⟩⟩
      | exact ⟨_, h, fun X K' hk => hk⟩
  case cutL sz x l0 h0 mx =>
    simp only [opV, evK_eq, evOK_eq] at h ⊢
    split at h
    · exact h.elim
    · split at h
      · obtain ⟨h1, h⟩ := h
        split at h
        all_goals first
          | exact h.elim
          | exact ⟨_, h.2, fun X K' hk => ⟨h1, h.1, hk⟩⟩
          | exact ⟨_, h, fun X K' hk => ⟨h1, hk⟩⟩
      · split at h
        all_goals first
          | exact h.elim
          | exact ⟨_, h.2, fun X K' hk => ⟨h.1, hk⟩⟩
          | exact ⟨_, h, fun X K' hk => hk⟩
      · split at h
        all_goals first
          | exact h.elim
          | exact ⟨_, h.2, fun X K' hk => ⟨h.1, hk⟩⟩
      · obtain ⟨h1, h⟩ := h
        split at h
        all_goals first
          | exact h.elim
          | exact ⟨_, h.2, fun X K' hk => ⟨h1, h.1, hk⟩⟩
      · obtain ⟨h1, h⟩ := h
        split at h
        all_goals first
          | exact h.elim
          | exact ⟨_, h.2.2, fun X K' hk => ⟨aliveV_ext h1, h.1, h.2.1, hk⟩⟩
          | exact ⟨_, h.2, fun X K' hk => ⟨aliveV_ext h1, h.1, hk⟩⟩
          | exact ⟨_, h, fun X K' hk => ⟨aliveV_ext h1, hk⟩⟩
      · obtain ⟨h1, h⟩ := h
        split at h
        all_goals first
          | exact h.elim
          | exact ⟨_, h.2.2, fun X K' hk => ⟨aliveV_ext h1, h.1, h.2.1, hk⟩⟩
          | exact ⟨_, h.2, fun X K' hk => ⟨aliveV_ext h1, h.1, hk⟩⟩
          | exact ⟨_, h, fun X K' hk => ⟨aliveV_ext h1, hk⟩⟩
      · exact h.elim
  case call f args =>
    simp only [opV, evsK_eq] at h ⊢
    obtain ⟨v, h, h1⟩ := callD_ext h
    exact ⟨v, h, fun X K' hk => h1 X K' hk⟩
  case callv x args =>
    simp only [opV, evK_eq, evsK_eq] at h ⊢
    split at h
    · exact h.elim
    · obtain ⟨h0, h⟩ := h
      obtain ⟨v, h, h1⟩ := callD_ext h
      exact ⟨v, h, fun X K' hk => ⟨h0, h1 X K' hk⟩⟩
    · obtain ⟨h0, h⟩ := h
      obtain ⟨v, h, h1⟩ := callD_ext h
      exact ⟨v, h, fun X K' hk => ⟨h0, h1 X K' hk⟩⟩
    · exact h.elim
  case look kk zero ok x j =>
    simp only [opV, evK_eq] at h ⊢
    split at h
    · obtain ⟨h0, h⟩ := h
      split at h
      · exact ⟨_, h, fun X K' hk => ⟨h0, hk⟩⟩
      · obtain ⟨o, ho, h⟩ := atK_out _ _ _ h
        split at h
        · obtain ⟨q, hq, h⟩ := h
          exact ⟨_, h, fun X K' hk => ⟨h0, atK_in _ _ _ _ (ext ho) (by exact ⟨q, hq, hk⟩)⟩⟩
        · obtain ⟨q, hq, h⟩ := h
          exact ⟨_, h, fun X K' hk => ⟨h0, atK_in _ _ _ _ (ext ho) (by exact ⟨q, hq, hk⟩)⟩⟩
        · exact h.elim
      · obtain ⟨o, ho, h⟩ := atK_out _ _ _ h
        split at h
        · obtain ⟨q, hq, h⟩ := h
          exact ⟨_, h, fun X K' hk => ⟨h0, atK_in _ _ _ _ ho (by exact ⟨q, hq, hk⟩)⟩⟩
        · obtain ⟨q, hq, h⟩ := h
          exact ⟨_, h, fun X K' hk => ⟨h0, atK_in _ _ _ _ ho (by exact ⟨q, hq, hk⟩)⟩⟩
        · exact h.elim
      · exact h.elim
    · exact h.elim

end Go.Proofs.YtgdimfogijfmiaaDoor.AD

namespace Go.Proofs.YtgdimfogijfmiaaDoor.AD
set_option linter.unusedVariables false
set_option linter.unusedSimpArgs false
section
variable {P : Program} {N B : Nat} {T : List Deferred} {ro : Option Nat} {nd : Nat}

/-- One operation, from these objects to those. -/
def StepAt (P : Program) (o : Oper) (v : AV) (fr : FR) (ba lo ba' lo' : List Ob) : Prop :=
  ∀ (ro : Option Nat) (nd : Nat) (μ : List MI) (w : World) (a : Act) (next : Act → World → Prop) (Q : Exit → Act → World → Prop), Inv μ w ba lo → Opnds o a μ w ba fr →
    (∀ c μ' w', VA ⟨blocks μ', ba.length, μ'⟩ w' c v → Inv μ' w' ba' lo' → Le μ w μ' w' → ba'.length = ba.length → next (a.put o.dst c) w') → o.wpIn (FW ro) nd P a w next Q

theorem stepAt_op {o : Oper} {i : IOp} {own : List Nat} {d : Bool} {fr : FR} {ba lo : List Ob} {K : AV → List Ob → List Ob → Prop} (hc : compO P own o = some i) (hn : isCall i = false) (h : opV P d i fr ba lo K) : ∃ v ba' lo', K v ba' lo' ∧ StepAt P o v fr ba lo ba' lo' := by
  obtain ⟨v, ba', lo', hk, hgv⟩ := op_out hc hn h
  refine ⟨v, ba', lo', hk, fun ro nd μ w a next Q hi ho hnext => ?_⟩
  obtain ⟨c, w', μ', hrun, g1, g2, g3, g4⟩ := hgv μ w a hi ho
  unfold Oper.wpIn
  refine ⟨fun _ _ => trivial, ?_⟩
  rw [Oper.semAt_eq _ _ _ (not_defer hc h)]
  rcases hrun with hrun | ⟨hrun, rfl⟩
  · rw [hrun, Oper.uponIn_value]; exact hnext c μ' w' g1 g2 g3 g4
  · rw [hrun, Oper.uponIn_skip]; exact hnext _ μ' w' g1 g2 g3 g4

theorem stepAt_of {o : Oper} {i : IOp} {own : List Nat} {v : AV} {fr : FR} {ba lo : List Ob} (hc : compO P own o = some i) (h : opV P false i fr ba lo fun v' b l => v' = v ∧ b = ba ∧ l = lo) : StepAt P o v fr ba lo ba lo := by
  cases hn : isCall i with
  | false =>
    obtain ⟨v', ba', lo', ⟨rfl, rfl, rfl⟩, hs⟩ := stepAt_op hc hn h
    exact hs
  | true =>
    intro ro nd μ w a next Q hi ho hnext
    refine call_op hc hn h hi ho fun c r μ' w' ba' lo' g1 g2 g3 g4 g5 => ?_
    obtain ⟨rfl, rfl, rfl⟩ := g5
    exact hnext c μ' w' g1 g2 g3 g4

/-- One operation where the order is open. -/
structure StepC (P : Program) (o : Oper) (io : IO_) (fr fr' : FR) (ba lo ba' lo' : List Ob) (v : AV) : Prop where
  put : fr' = putF fr io.dst v
  low : effect io.op < 2 → ba' = ba ∧ lo' = lo
  new : effect io.op = 3 → ba' = ba ∧ ∃ X, lo' = lo ++ X
  out : (∃ t b, io.guard = some (t, b) ∧ Unw (getF fr t) b ∧ v = .p (.tup []) ∧ ba' = ba ∧ lo' = lo) ∨
    ((∀ t b, io.guard = some (t, b) → getF fr t = .p (.bool b)) ∧ StepAt P o v fr ba lo ba' lo' ∧ (effect io.op = 0 → ∀ ba2 lo2, StepAt P o v fr ba2 lo2 ba2 lo2) ∧ (effect io.op = 1 → ∀ X, StepAt P o v fr ba (lo ++ X) ba (lo ++ X)))

theorem call_effect {i : IOp} (h : isCall i = true) : effect i = 1 ∨ ∃ f a, i = .callE f a := by cases i <;> first | exact .inl rfl | exact .inr ⟨_, _, rfl⟩ | cases h

def Seen (P : Program) (x : IOp × FR × AV) (ba lo : List Ob) : Prop := ∀ K : AV → List Ob → List Ob → Prop, K x.2.2 ba lo → opV P false x.1 x.2.1 ba lo K

theorem step_of {own : List Nat} {o : Oper} {i : IOp} {fr : FR} {ba lo : List Ob} {K : AV → List Ob → List Ob → Prop} (hc : compO P own o = some i) (h : opV P true i fr ba lo K) :
    ∃ v ba' lo', K v ba' lo' ∧ (effect i < 2 → ba' = ba ∧ lo' = lo) ∧ (effect i = 3 → ba' = ba ∧ ∃ X, lo' = lo ++ X) ∧ StepAt P o v fr ba lo ba' lo' ∧ (effect i = 0 → ∀ ba2 lo2, StepAt P o v fr ba2 lo2 ba2 lo2) ∧ (effect i = 1 → ∀ X, StepAt P o v fr ba (lo ++ X) ba (lo ++ X)) ∧ (effect i = 1 → Seen P (i, fr, v) ba lo) := by
  by_cases h0 : effect i = 0
  · obtain ⟨v, hk, h1⟩ := opV_quiet h0 h
    have hs : ∀ ba2 lo2, StepAt P o v fr ba2 lo2 ba2 lo2 := fun ba2 lo2 => stepAt_of hc (h1 ba2 lo2 _ ⟨rfl, rfl, rfl⟩)
    exact ⟨v, ba, lo, hk, fun _ => ⟨rfl, rfl⟩, fun _ => ⟨rfl, [], by simp⟩, hs _ _, fun _ => hs, fun _ X => hs _ _, fun e => by omega⟩
  · by_cases h1 : effect i = 1
    · obtain ⟨v, hk, h2⟩ := opV_reader h1 h
      have hs : ∀ X, StepAt P o v fr ba (lo ++ X) ba (lo ++ X) := fun X => stepAt_of hc (h2 X _ ⟨rfl, rfl, rfl⟩)
      exact ⟨v, ba, lo, hk, fun _ => ⟨rfl, rfl⟩, fun _ => ⟨rfl, [], by simp⟩, by have := hs []; rw [List.append_nil] at this; exact this, fun e => absurd e h0, fun _ => hs, fun _ K' hk' => by have := h2 [] K' (by rw [List.append_nil]; exact hk'); rwa [List.append_nil] at this⟩
    · by_cases hE : ∃ f a, i = .callE f a
      · obtain ⟨f, args, rfl⟩ := hE
        simp only [opV, evsK_eq] at h
        obtain ⟨r, ba', lo', h2, hk⟩ := h.out
        refine ⟨r, ba', lo', hk, fun e => absurd e (by simp [effect]), fun e => absurd e (by simp [effect]), ?_, fun e => absurd e h0, fun e => absurd e h1, fun e => absurd e h1⟩
        intro ro nd μ w a next Q hi ho hnext
        refine call_op (K := fun r' b l => r' = r ∧ b = ba' ∧ l = lo') hc rfl (by simp only [opV, evsK_eq]; exact h2) hi ho fun c r' μ' w' ba2 lo2 g1 g2 g3 g4 g5 => ?_
        obtain ⟨rfl, rfl, rfl⟩ := g5
        exact hnext c μ' w' g1 g2 g3 g4
      have hn : isCall i = false := by
        cases hb : isCall i with
        | false => rfl
        | true => rcases call_effect hb with e | e <;> contradiction
      have h' : opV P true i fr ba lo fun v b l => K v b l ∧ (effect i = 3 → b = ba ∧ ∃ X, l = lo ++ X) := by
        by_cases h3 : effect i = 3
        · cases i <;> simp only [effect] at h3 <;> try (cases h3; done)
          case alloc z =>
            simp only [opV, upPK_eq, pushK_eq] at h ⊢
            exact ⟨h, fun _ => ⟨trivial, _, rfl⟩⟩
          case box x =>
            simp only [opV, evK_eq] at h ⊢
            obtain ⟨cs, h, h2⟩ := cellsK_pt h
            rw [pushK_eq] at h
            exact h2 _ (by rw [pushK_eq]; exact ⟨h, fun _ => ⟨trivial, _, rfl⟩⟩)
          case lit own _ _ _ _ => cases own <;> simp at h3
          case nilb sz =>
            simp only [opV, pushK_eq] at h ⊢
            exact ⟨h, fun _ => ⟨trivial, _, rfl⟩⟩
        · have e : (fun v b l => K v b l ∧ (effect i = 3 → b = ba ∧ ∃ X, l = lo ++ X)) = K := by
            funext v b l
            exact propext ⟨fun h => h.1, fun h => ⟨h, fun e => absurd e h3⟩⟩
          rw [e]; exact h
      obtain ⟨v, ba', lo', ⟨hk, hx⟩, hs⟩ := stepAt_op hc hn h'
      exact ⟨v, ba', lo', hk, fun e => by omega, hx, hs, fun e => absurd e h0, fun e => absurd e h1, fun e => absurd e h1⟩

/-- The run in the text's order. -/
theorem canon {own : List Nat} {all : List Oper} {K : FR → List Ob → List Ob → Prop} : ∀ (l : List Oper) (is : List IO_) (i : Nat), compOps P N own all i l = some is → ∀ {fr : FR} {ba lo : List Ob}, opsV P true is fr ba lo K →
    ∃ (F : Nat → FR) (B' L : Nat → List Ob) (V : Nat → AV), F 0 = fr ∧ B' 0 = ba ∧ L 0 = lo ∧ K (F l.length) (B' l.length) (L l.length) ∧
      ∀ j o io, l[j]? = some o → is[j]? = some io → StepC P o io (F j) (F (j + 1)) (B' j) (L j) (B' (j + 1)) (L (j + 1)) (V j)
  | [], is, i, hc, fr, ba, lo, h => by
    cases hc
    exact ⟨fun _ => fr, fun _ => ba, fun _ => lo, fun _ => .p .undef, rfl, rfl, rfl, h, fun j o io e => by simp at e⟩
  | o :: l, is, i, hc, fr, ba, lo, h => by
    simp only [compOps] at hc
    split at hc
    · rename_i io ios hio hios
      cases hc
      obtain ⟨c1, c2, c3, c4⟩ := compI_out hio
      have rest : ∀ {v : AV} {ba' lo' : List Ob}, StepC P o io fr (putF fr io.dst v) ba lo ba' lo' v → opsV P true ios (putF fr io.dst v) ba' lo' K → ∃ (F : Nat → FR) (B' L : Nat → List Ob) (V : Nat → AV), F 0 = fr ∧ B' 0 = ba ∧ L 0 = lo ∧ K (F (o :: l).length) (B' (o :: l).length) (L (o :: l).length) ∧
          ∀ j o' io', (o :: l)[j]? = some o' → (io :: ios)[j]? = some io' → StepC P o' io' (F j) (F (j + 1)) (B' j) (L j) (B' (j + 1)) (L (j + 1)) (V j) := fun {v ba' lo'} hs h => by
        obtain ⟨F, B', L, V, e1, e2, e3, hk, hst⟩ := canon l ios (i + 1) hios h
        refine ⟨fun j => match j with | 0 => fr | j + 1 => F j, fun j => match j with | 0 => ba | j + 1 => B' j, fun j => match j with | 0 => lo | j + 1 => L j, fun j => match j with | 0 => v | j + 1 => V j, rfl, rfl, rfl, hk, fun j o' io' h1 h2 => ?_⟩
        cases j with
        | zero =>
          simp at h1 h2
          subst h1; subst h2
          show StepC P o io fr (F 0) ba lo (B' 0) (L 0) v
          rw [e1, e2, e3]; exact hs
        | succ j => exact hst j o' io' (by simpa using h1) (by simpa using h2)
      rcases opsV_cons h with ⟨hg, h⟩ | ⟨t, b, hg, hv, h⟩
      · obtain ⟨v, ba', lo', hk, s1, s2, s3, s4, s5, _⟩ := step_of c2 h
        exact rest ⟨rfl, s1, s2, .inr ⟨hg, s3, s4, s5⟩⟩ (nextK_out hk)
      · exact rest ⟨rfl, fun _ => ⟨rfl, rfl⟩, fun _ => ⟨rfl, [], by simp⟩, .inl ⟨t, b, hg, hv, rfl, rfl, rfl⟩⟩ h
    · cases hc

theorem compOps_get {own : List Nat} {all : List Oper} : ∀ (l : List Oper) (is : List IO_) (i : Nat), compOps P N own all i l = some is → is.length = l.length ∧ ∀ j o io, l[j]? = some o → is[j]? = some io → compI P N own all (i + j) o = some io
  | [], is, i, hc => by cases hc; exact ⟨rfl, fun j o io e => by simp at e⟩
  | o :: l, is, i, hc => by
    simp only [compOps] at hc
    split at hc
    · rename_i io ios hio hios
      cases hc
      obtain ⟨h1, h2⟩ := compOps_get l ios (i + 1) hios
      refine ⟨by simp [h1], fun j o' io' e1 e2 => ?_⟩
      cases j with
      | zero => simp at e1 e2; subst e1; subst e2; exact hio
      | succ j => have := h2 j o' io' (by simpa using e1) (by simpa using e2); rwa [show i + 1 + j = i + (j + 1) by omega] at this
    · cases hc

/-! #### which stands ahead of which -/

/-- With an operation all those that it waits for. -/
def Shut (all : List Oper) (S : Nat → Prop) : Prop := ∀ i o, all[i]? = some o → S i → ∀ e, e ∈ o.after.toList → Region.binds .any e = true → S e.on

theorem bits_sound {acc : List Nat} {S : Nat → Prop} : ∀ (es : List Edge) (s : Nat), (∀ k, s.testBit k = true → S k) → (∀ e, e ∈ es → Region.binds .any e = true → S e.on ∧ ∀ k, (acc.getD e.on 0).testBit k = true → S k) →
    ∀ k, (es.foldl (fun s e => if Region.binds .any e then s ||| 2 ^ e.on ||| acc.getD e.on 0 else s) s).testBit k = true → S k
  | [], s, h, _, k, hk => h k hk
  | e :: r, s, h, h2, k, hk => by
    simp only [List.foldl_cons] at hk
    refine bits_sound r _ ?_ (fun e' he' => h2 e' (by simp [he'])) k hk
    intro k' hk'
    split at hk'
    · rename_i hb
      obtain ⟨h3, h4⟩ := h2 e (by simp) hb
      simp only [Nat.testBit_or, Bool.or_eq_true] at hk'
      rcases hk' with (hk' | hk') | hk'
      · exact h k' hk'
      · rw [Nat.testBit_two_pow] at hk'
        have : e.on = k' := by simpa using hk'
        rw [← this]; exact h3
      · exact h4 k' hk'
    · exact h k' hk'

theorem befores_sound (all : List Oper) : ∀ (l pre : List Oper) (acc : List Nat), all = pre ++ l → acc.length = pre.length →
    (∀ j o, j < acc.length → all[j]? = some o → ∀ S, Shut all S → (∀ e, e ∈ o.after.toList → Region.binds .any e = true → S e.on) → ∀ k, (acc.getD j 0).testBit k = true → S k) →
    ∀ j o, all[j]? = some o → ∀ S, Shut all S → (∀ e, e ∈ o.after.toList → Region.binds .any e = true → S e.on) → ∀ k,
      ((l.foldl (fun acc o => acc ++ [o.after.toList.foldl (fun s e => if Region.binds .any e then s ||| 2 ^ e.on ||| acc.getD e.on 0 else s) 0]) acc).getD j 0).testBit k = true → S k
  | [], pre, acc, he, hl, hg, j, o, hj, S, hS, hs, k, hk => hg j o (by rw [hl]; rw [he, List.append_nil] at hj; exact get_lt hj) hj S hS hs k hk
  | x :: l, pre, acc, he, hl, hg, j, o, hj, S, hS, hs, k, hk => by
    simp only [List.foldl_cons] at hk
    refine befores_sound all l (pre ++ [x]) _ (by simp [he]) (by simp [hl]) ?_ j o hj S hS hs k hk
    intro j' o' hj' ho' S' hS' hs' k' hk'
    rcases Nat.lt_or_ge j' acc.length with h1 | h1
    · rw [List.getD_eq_getElem?_getD, List.getElem?_append_left h1, ← List.getD_eq_getElem?_getD] at hk'
      exact hg j' o' h1 ho' S' hS' hs' k' hk'
    · have e : j' = acc.length := by simp at hj'; omega
      subst e
      have ex : o' = x := by
        rw [he, hl, List.getElem?_append_right (Nat.le_refl _)] at ho'
        simpa using ho'.symm
      subst ex
      rw [List.getD_eq_getElem?_getD, List.getElem?_append_right (Nat.le_refl _)] at hk'
      simp only [Nat.sub_self, List.getElem?_cons_zero, Option.getD_some] at hk'
      refine bits_sound _ 0 (fun k h => by simp at h) (fun e hem hb => ⟨hs' e hem hb, fun k2 hk2 => ?_⟩) k' hk'
      rcases Nat.lt_or_ge e.on acc.length with h2 | h2
      · have h3 : e.on < all.length := by rw [he]; simp; omega
        exact hg e.on all[e.on] h2 (List.getElem?_eq_getElem h3) S' hS' (hS' e.on all[e.on] (List.getElem?_eq_getElem h3) (hs' e hem hb)) k2 hk2
      · rw [List.getD_eq_getElem?_getD, List.getElem?_eq_none h2] at hk2
        simp at hk2

/-! #### what a place holds when some have been -/

def valS (D : Nat → Option Nat) (V : Nat → AV) (fr : FR) (S : Nat → Bool) : Nat → Nat → AV
  | 0, t => getF fr t
  | k + 1, t => if S k = true ∧ D k = some t then V k else valS D V fr S k t

theorem valS_agree {D : Nat → Option Nat} {V : Nat → AV} {fr : FR} {S : Nat → Bool} {i t : Nat} : ∀ {n : Nat}, (∀ j, j < n → D j = some t → (S j = true ↔ j < i)) → valS D V fr S n t = valS D V fr (fun _ => true) (min n i) t
  | 0, _ => by simp [valS]
  | n + 1, h => by
    have ih := valS_agree (n := n) (V := V) (fr := fr) fun j hj => h j (by omega)
    simp only [valS]
    rcases Nat.lt_or_ge n i with h1 | h1
    · rw [show min (n + 1) i = n + 1 by omega]
      rw [show min n i = n by omega] at ih
      simp only [valS]
      by_cases h2 : D n = some t
      · rw [if_pos ⟨(h n (by omega) h2).2 h1, h2⟩, if_pos ⟨trivial, h2⟩]
      · rw [if_neg (fun e => h2 e.2), if_neg (fun e => h2 e.2)]; exact ih
    · rw [show min (n + 1) i = min n i by omega, ← ih]
      rw [if_neg]
      intro e
      have := (h n (by omega) e.2).1 e.1
      omega

theorem valS_put {D : Nat → Option Nat} {V : Nat → AV} {fr : FR} {S S' : Nat → Bool} {i t : Nat} (hS : ∀ j, j ≠ i → S' j = S j) : ∀ {n : Nat}, D i ≠ some t → valS D V fr S' n t = valS D V fr S n t
  | 0, _ => rfl
  | n + 1, h => by
    simp only [valS, valS_put (n := n) hS h]
    by_cases e : n = i
    · subst e; rw [if_neg (fun e => h e.2), if_neg (fun e => h e.2)]
    · rw [hS n e]
theorem valS_self {D : Nat → Option Nat} {V : Nat → AV} {fr : FR} {S : Nat → Bool} {i t : Nat} (hi : S i = true) (hd : D i = some t) : ∀ {n : Nat}, i < n → (∀ j, j < n → i < j → D j = some t → S j = false) → valS D V fr S n t = V i
  | 0, h, _ => absurd h (by omega)
  | n + 1, h, h2 => by
    simp only [valS]
    by_cases e : n = i
    · subst e; rw [if_pos ⟨hi, hd⟩]
    · rw [if_neg, valS_self (n := n) hi hd (by omega) fun j hj => h2 j (by omega)]
      intro e2
      have := h2 n (by omega) (by omega) e2.2
      rw [this] at e2
      cases e2.1

theorem getD_set {l : Array Bool} {i j : Nat} (hi : i < l.size) : (l.setIfInBounds i true).getD j false = if j = i then true else l.getD j false := by
  by_cases h : j = i
  · subst h; simp [hi]
  · simp [Array.getElem?_setIfInBounds_ne (fun e => h e.symm), h]

/-- An operation that panics. -/
def StepD (P : Program) (o : Oper) (fr : FR) (ba lo : List Ob) (X : XV) : Prop :=
  ∀ (ro : Option Nat) (nd : Nat) (μ : List MI) (w : World) (a : Act) (next : Act → World → Prop) (Q : Exit → Act → World → Prop), Inv μ w ba lo → Opnds o a μ w ba fr →
    (∀ ch μ' w' ba' lo', X ch ba' lo' → Inv μ' w' ba' lo' → Le μ w μ' w' → ba'.length = ba.length → Q (.panic ch) a w') → o.wpIn (FW ro) nd P a w next Q

theorem any_sound {m : Bool} {own : List Nat} {all : List Oper} {is : List IO_} {id : Nat} {Q : Exit → Act → World → Prop} {K : FR → List Ob → List Ob → Prop} {X : XV} {μ : List MI} {w : World} {a : Act} {fr : FR} {ba lo : List Ob} (hc : compOps P N own all 0 all = some is) (hd : drawOk m all is = true) (hm : P.follows .mixedOrders = true)
    {F : Nat → FR} {B' L : Nat → List Ob} {V : Nat → AV} (e1 : F 0 = fr) (e2 : B' 0 = ba) (e3 : L 0 = lo) (c0 : Nat) (hc0 : c0 ≤ all.length) (hk : c0 = all.length → K (F c0) (B' c0) (L c0)) (hst : ∀ j o io, j < c0 → all[j]? = some o → is[j]? = some io → StepC P o io (F j) (F (j + 1)) (B' j) (L j) (B' (j + 1)) (L (j + 1)) (V j))
    (hread : m = true → ∀ j h o io, j < h → h ≤ c0 → all[j]? = some o → is[j]? = some io → effect io.op = 1 → (∀ t b, io.guard = some (t, b) → getF (F j) t = .p (.bool b)) → (∀ k, j < k → k < h → 2 ≤ effect (is.getD k default).op → ((befores all).getD k 0).testBit j = false) → StepAt P o (V j) (F j) (B' h) (L h) (B' h) (L h))
    (hdead : c0 < all.length → (∀ j, c0 < j → j < all.length → ((befores all).getD j 0).testBit c0 = true) ∧ ∀ o io, all[c0]? = some o → is[c0]? = some io → io.guard = none ∧ 2 ≤ effect io.op ∧ StepD P o (F c0) (B' c0) (L c0) X)
    (hqx : ∀ ch ba' lo' μ' w' a', X ch ba' lo' → Rel N B T μ' w' a' [] ba' lo' → Le μ w μ' w' → ba'.length = ba.length → Q (.panic ch) a' w')
    (hr : Rel N B T μ w a fr ba lo)
    (hq : ∀ fr' ba' lo' μ' w' a', K fr' ba' lo' → Rel N B T μ' w' a' fr' ba' lo' → Le μ w μ' w' → ba'.length = ba.length → Q .normal a' w') : (Code.region id all.toArray true).wpIn (FW ro) nd P Q a w := by
  obtain ⟨hlen, hci⟩ := compOps_get all is 0 hc
  simp only [Nat.zero_add] at hci
  simp only [drawOk, Bool.and_eq_true, List.all_eq_true, List.mem_range, Bool.or_eq_true] at hd
  obtain ⟨⟨_, hpair⟩, hedge⟩ := hd
  have hedge : ∀ i o, all[i]? = some o → ∀ e, e ∈ o.after.toList → Region.binds .any e = true → e.on < i := fun i o ho e he hb => by
    have := hedge (o, i) (List.mk_mem_zipIdx_iff_getElem?.2 ho) e he
    simpa [hb] using this
  have hbef : ∀ j o, all[j]? = some o → ∀ S, Shut all S → (∀ e, e ∈ o.after.toList → Region.binds .any e = true → S e.on) → ∀ k, ((befores all).getD j 0).testBit k = true → S k :=
    befores_sound all all [] [] rfl rfl fun j o hj => absurd hj (by simp)
  -- the operations
  generalize hn : all.length = n at *
  let E : Nat → Nat := fun j => effect (is.getD j default).op
  let D : Nat → Option Nat := fun j => (all[j]?).bind (·.dst)
  have oi0 : ∀ j, j < n → ∃ o io, all[j]? = some o ∧ is[j]? = some io ∧ E j = effect io.op ∧ D j = o.dst ∧ io.dst = o.dst ∧ compI P N own all j o = some io ∧ (j < c0 → StepC P o io (F j) (F (j + 1)) (B' j) (L j) (B' (j + 1)) (L (j + 1)) (V j)) := fun j hj => by
    have h1 : all[j]? = some all[j] := List.getElem?_eq_getElem (by omega)
    have h2 : is[j]? = some is[j] := List.getElem?_eq_getElem (by omega)
    have h3 := hci j _ _ h1 h2
    refine ⟨_, _, h1, h2, ?_, ?_, (compI_out h3).2.2.1, h3, fun hjc => hst j _ _ hjc h1 h2⟩
    · simp [E, h2]
    · simp [D, h1]
  have oi : ∀ j, j < c0 → ∃ o io, all[j]? = some o ∧ is[j]? = some io ∧ E j = effect io.op ∧ D j = o.dst ∧ io.dst = o.dst ∧ compI P N own all j o = some io ∧ StepC P o io (F j) (F (j + 1)) (B' j) (L j) (B' (j + 1)) (L (j + 1)) (V j) := fun j hj => by
    obtain ⟨o, io, a1, a2, a3, a4, a5, a6, a7⟩ := oi0 j (by omega)
    exact ⟨o, io, a1, a2, a3, a4, a5, a6, a7 hj⟩
  have hF : ∀ i, i ≤ c0 → ∀ t, getF (F i) t = valS D V fr (fun _ => true) i t := by
    intro i
    induction i with
    | zero => intro _ t; rw [e1]; rfl
    | succ i ih =>
      intro hi t
      obtain ⟨o, io, h1, h2, h3, h4, h5, h6, h7⟩ := oi i (by omega)
      rw [h7.put, h5]
      simp only [valS, h4]
      cases hdst : o.dst with
      | none => simp only [putF]; rw [if_neg (by simp)]; exact ih (by omega) t
      | some d =>
        simp only [putF, get_set]
        by_cases e : d = t
        · subst e; rw [if_pos rfl, if_pos ⟨trivial, rfl⟩]
        · rw [if_neg e, if_neg (by simp [e])]; exact ih (by omega) t
  have same : ∀ p q, p ≤ q → q ≤ c0 → (∀ j, p ≤ j → j < q → E j < 2) → B' q = B' p ∧ L q = L p := by
    intro p q hpq
    induction hpq with
    | refl => intro _ _; exact ⟨rfl, rfl⟩
    | step hpq ih =>
      rename_i q
      intro hq hE
      obtain ⟨o, io, h1, h2, h3, h4, h5, h6, h7⟩ := oi q (by omega)
      obtain ⟨g1, g2⟩ := h7.low (by rw [← h3]; exact hE q hpq (by omega))
      obtain ⟨i1, i2⟩ := ih (by omega) fun j hj hj2 => hE j hj (by omega)
      exact ⟨g1.trans i1, g2.trans i2⟩
  have grow : ∀ p q, p ≤ q → q ≤ c0 → (∀ j, p ≤ j → j < q → E j < 2 ∨ E j = 3) → B' q = B' p ∧ ∃ X, L q = L p ++ X := by
    intro p q hpq
    induction hpq with
    | refl => intro _ _; exact ⟨rfl, [], by simp⟩
    | step hpq ih =>
      rename_i q
      intro hq hE
      obtain ⟨o, io, h1, h2, h3, h4, h5, h6, h7⟩ := oi q (by omega)
      obtain ⟨i1, X, i2⟩ := ih (by omega) fun j hj hj2 => hE j hj (by omega)
      rcases hE q hpq (by omega) with h8 | h8
      · obtain ⟨g1, g2⟩ := h7.low (by rw [← h3]; exact h8)
        exact ⟨g1.trans i1, X, g2.trans i2⟩
      · obtain ⟨g1, Y, g2⟩ := h7.new (by rw [← h3]; exact h8)
        exact ⟨g1.trans i1, X ++ Y, by rw [g2, i2, List.append_assoc]⟩
  have hE4 : ∀ j, E j ≤ 3 := fun j => by
    show effect _ ≤ 3
    generalize (is.getD j default).op = i
    cases i <;> simp only [effect] <;> first | omega | (split <;> omega)
  -- the invariant
  let J : Array Bool → Act → World → Prop := fun l a' w' => l.size = n ∧ Shut all (fun i => l.getD i false = true) ∧ a'.tmps.size = N ∧ a'.defers = a.defers ∧ (∀ j, c0 ≤ j → l.getD j false = false) ∧
    ∃ h μ', h ≤ c0 ∧ (∀ j, j < c0 → 2 ≤ E j → (l.getD j false = true ↔ j < h)) ∧ Inv μ' w' (B' h) (L h) ∧ (B' h).length = ba.length ∧ Le μ w μ' w' ∧
      ∀ t, VA ⟨blocks μ', ba.length, μ'⟩ w' (a'.tmps.getD t undef) (valS D V fr (fun j => l.getD j false) c0 t)
  have fin : ∀ l a' w', J l a' w' → (∀ i, i < n → l.getD i false = true) → Q .normal a' w' := by
    rintro l a' w' ⟨j1, j2, j3, j4, jd, h, μ', j5, j6, j7, j8, j9, j10⟩ hall
    have hcn : c0 = n := by
      rcases Nat.lt_or_ge c0 n with h8 | h8
      · have := hall c0 h8; rw [jd c0 (Nat.le_refl _)] at this; cases this
      · omega
    subst hcn
    obtain ⟨s1, s2⟩ := same h c0 j5 (Nat.le_refl _) fun j hj hj2 => by
      rcases Nat.lt_or_ge (E j) 2 with h1 | h1
      · exact h1
      · have := (j6 j hj2 h1).1 (hall j hj2); omega
    refine hq (F c0) (B' c0) (L c0) μ' w' a' (hk rfl) ⟨by rw [s1, s2]; exact j7, j3, Nat.le_trans hr.base j9.stays.1, by rw [j4]; exact hr.defers.mono j9.stays, fun t => ?_⟩ j9 (by rw [s1]; exact j8)
    rw [s1, j8, hF c0 (Nat.le_refl _) t]
    have := valS_agree (D := D) (V := V) (fr := fr) (S := fun j => l.getD j false) (i := c0) (t := t) (n := c0) fun j hj _ => ⟨fun _ => hj, fun _ => hall j hj⟩
    rw [Nat.min_self] at this
    rw [← this]
    exact j10 t
  have ready : ∀ l i, l.size = n → (i ∈ Region.ready .any all.toArray l ↔ i < n ∧ l.getD i false = false ∧ ∀ o, all[i]? = some o → ∀ e, e ∈ o.after.toList → Region.binds .any e = true → l.getD e.on false = true) := by
    intro l i hl
    unfold Region.ready
    simp only [List.mem_filter, List.mem_range, Bool.and_eq_true, Bool.not_eq_true', List.size_toArray, hn]
    constructor
    · rintro ⟨h1, h2, h3⟩
      have hi : i < l.size := by omega
      refine ⟨h1, by simpa [hi] using h2, fun o ho e he hb => ?_⟩
      simp only [List.getElem?_toArray, ho, Option.map_some, Option.getD_some, ← Array.all_toList, List.all_eq_true] at h3
      simpa [hb] using h3 e he
    · rintro ⟨h1, h2, h3⟩
      have hi : i < l.size := by omega
      obtain ⟨o, _, ho, _⟩ := oi0 i h1
      refine ⟨h1, by simpa [hi] using h2, ?_⟩
      simp only [List.getElem?_toArray, ho, Option.map_some, Option.getD_some, ← Array.all_toList, List.all_eq_true]
      intro e he
      by_cases hb : Region.binds .any e = true
      · simp [h3 o ho e he hb]
      · simp [hb]
  have done : ∀ l a' w', J l a' w' → Region.ready .any all.toArray l = [] → Q .normal a' w' := by
    intro l a' w' hj hrd
    refine fin l a' w' hj fun i hi => ?_
    induction i using Nat.strongRecOn with
    | _ i ih =>
      cases hb : l.getD i false with
      | true => rfl
      | false =>
        have : i ∈ Region.ready .any all.toArray l := (ready l i hj.1).2 ⟨hi, hb, fun o ho e he hbd => ih e.on (hedge i o ho e he hbd) (by have := hedge i o ho e he hbd; omega)⟩
        rw [hrd] at this
        cases this
  have step : ∀ l a' w' i, J l a' w' → i ∈ Region.ready .any all.toArray l → ∀ next : Act → World → Prop, (∀ a'' w'', J (l.setIfInBounds i true) a'' w'' → next a'' w'') → wpOpIn (FW ro) nd P all.toArray Q i next a' w' := by
    rintro l a' w' i ⟨j1, j2, j3, j4, jd, h, μ', j5, j6, j7, j8, j9, j10⟩ hi next hnext
    obtain ⟨hin, hnl, hed⟩ := (ready l i j1).1 hi
    obtain ⟨o, io, h1, h2, h3, h4, h5, h6, h7⟩ := oi0 i hin
    obtain ⟨c1, c2, c3, c4⟩ := compI_out h6
    have hedo := hed o h1
    have hic : i ≤ c0 := by
      rcases Nat.lt_or_ge c0 i with h8 | h8
      · have := hbef i o h1 _ j2 hedo c0 ((hdead (by omega)).1 i h8 hin)
        have := this.symm.trans (jd c0 (Nat.le_refl _))
        cases this
      · exact h8
    have getO : ∀ {j x}, all[j]? = some x → all.getD j default = x := fun {j x} e => by rw [List.getD_eq_getElem?_getD, e]; rfl
    have f1 : ∀ j oj, j < i → all[j]? = some oj → l.getD j false ≠ true → freePair m all.toArray oj o (E j) (E i) = true := fun j oj hji hoj hl => by
      rcases hpair i hin j hji with h8 | h8
      · exact absurd (hbef i o h1 _ j2 hedo j h8) hl
      · rwa [getO hoj, getO h1] at h8
    have f2 : ∀ j oj, j < n → i < j → all[j]? = some oj → l.getD j false = true → freePair m all.toArray o oj (E i) (E j) = true := fun j oj hjn hij hoj hl => by
      rcases hpair j hjn i hij with h8 | h8
      · have := hbef j oj hoj _ j2 (j2 j oj hoj hl) i h8
        rw [hnl] at this
        cases this
      · rwa [getO hoj, getO h1] at h8
    have agree : ∀ t, t ∈ o.looksAt all.toArray → VA ⟨blocks μ', ba.length, μ'⟩ w' (a'.tmps.getD t undef) (getF (F i) t) := fun t ht => by
      rw [hF i (by omega) t]
      have := valS_agree (D := D) (V := V) (fr := fr) (S := fun j => l.getD j false) (i := i) (t := t) (n := c0) fun j hj hd => by
        obtain ⟨oj, ioj, k1, k2, k3, k4, _⟩ := oi0 j (by omega)
        rw [k4] at hd
        constructor
        · intro hl
          rcases Nat.lt_trichotomy j i with h8 | h8 | h8
          · exact h8
          · subst h8; rw [hnl] at hl; cases hl
          · have := f2 j oj (by omega) h8 k1 hl
            simp only [freePair, Bool.and_eq_true] at this
            exact absurd ht ((Oper.apart_spec this.1).2.2 t hd)
        · intro hji
          cases hb : l.getD j false with
          | true => rfl
          | false =>
            have := f1 j oj hji k1 (by rw [hb]; simp)
            simp only [freePair, Bool.and_eq_true] at this
            exact absurd ht ((Oper.apart_spec this.1).1 t hd)
      rw [Nat.min_eq_right (by omega)] at this
      rw [← this]
      exact j10 t
    have opn : Opnds o a' μ' w' (B' h) (F i) := fun x r hx hxr => by
      rw [j8]
      cases r with
      | v e => exact rv_const hxr
      | t m =>
        cases x with
        | tmp t =>
          cases hxr
          exact agree m (List.mem_append_left _ (List.mem_filterMap.2 ⟨.tmp m, hx, rfl⟩))
        | const v => simp only [rv] at hxr; obtain ⟨e, _, h2⟩ := map_some hxr; cases h2
        | func f => cases hxr
        | global g => cases hxr
    have shut' : Shut all (fun j => (l.setIfInBounds i true).getD j false = true) := fun j oj hoj hl e he hb => by
      show (l.setIfInBounds i true).getD e.on false = true
      have hl : (l.setIfInBounds i true).getD j false = true := hl
      rw [getD_set (by omega)] at hl ⊢
      split
      · rfl
      · by_cases e' : j = i
        · subst e'
          exact hed oj hoj e he hb
        · rw [if_neg e'] at hl
          exact j2 j oj hoj hl e he hb
    have ahead : 1 ≤ E i → ∀ j, j < i → 2 ≤ E j → l.getD j false = true := fun hEi j hji h2 => by
      cases hb : l.getD j false with
      | true => rfl
      | false =>
        obtain ⟨oj, ioj, k1, _⟩ := oi0 j (by omega)
        have := f1 j oj hji k1 (by rw [hb]; simp)
        simp only [freePair, Bool.and_eq_true, Bool.or_eq_true, beq_iff_eq] at this
        omega
    have here : 1 ≤ E i → h ≤ i → B' i = B' h ∧ L i = L h := fun hEi hle => same h i hle (by omega) fun j hj hji => by
      rcases Nat.lt_or_ge (E j) 2 with h8 | h8
      · exact h8
      · have := (j6 j (by omega) h8).1 (ahead hEi j hji h8); omega
    unfold wpOpIn
    have h1' : all.toArray[i]? = some o := by simpa using h1
    simp only [h1']
    rcases Nat.lt_or_ge i c0 with hlt0 | hge0
    rotate_left
    · have hi0 : i = c0 := by omega
      subst hi0
      obtain ⟨d1, d2, d3⟩ := (hdead hin).2 o io h1 h2
      rw [if_pos (wanted_of h6 fun t b hgt => by rw [d1] at hgt; cases hgt)]
      obtain ⟨s1, s2⟩ := here (by omega) j5
      refine d3 ro nd μ' w' a' next Q (by rw [s1, s2]; exact j7) (by rw [s1]; exact opn) fun ch μ'' w'' b2 l2 g1 g2 g3 g4 => ?_
      rw [s1, j8] at g4
      refine hqx ch b2 l2 μ'' w'' a' g1 ⟨g2, j3, Nat.le_trans hr.base (j9.trans g3).stays.1, by rw [j4]; exact hr.defers.mono (j9.trans g3).stays, fun t => .p _ _ (.undef _)⟩ (j9.trans g3) g4
    have h7 := h7 hlt0
    -- after it
    have after : ∀ (c : Value) (μ'' : List MI) (w'' : World) (h' : Nat), h' ≤ c0 → (∀ j, j < c0 → 2 ≤ E j → ((l.setIfInBounds i true).getD j false = true ↔ j < h')) → Inv μ'' w'' (B' h') (L h') → (B' h').length = ba.length → Le μ' w' μ'' w'' → VA ⟨blocks μ'', ba.length, μ''⟩ w'' c (V i) → next (a'.put o.dst c) w'' := by
      intro c μ'' w'' h' g1 g2 g3 g4 g5 g6
      refine hnext _ _ ⟨by simp [j1], shut', ?_, ?_, fun j hj => by rw [getD_set (by omega), if_neg (by omega)]; exact jd j hj, h', μ'', g1, g2, g3, g4, j9.trans g5, fun t => ?_⟩
      · cases o.dst <;> simp [Act.put, j3]
      · cases o.dst <;> simp [Act.put, j4]
      · have hS : ∀ j, j ≠ i → (l.setIfInBounds i true).getD j false = l.getD j false := fun j hj => by rw [getD_set (by omega), if_neg hj]
        have hSi : (l.setIfInBounds i true).getD i false = true := by rw [getD_set (by omega), if_pos rfl]
        by_cases hdt : D i = some t
        · rw [valS_self (S := fun j => (l.setIfInBounds i true).getD j false) hSi hdt hlt0 fun j hj hij hdj => ?_]
          · rw [h4] at hdt
            have hlt := c1 t hdt
            have : (a'.put o.dst c).tmps.getD t undef = c := by rw [hdt]; simp [Act.put, j3, hlt]
            rw [this]; exact g6
          · rw [hS j (by omega)]
            cases hb : l.getD j false with
            | false => rfl
            | true =>
              obtain ⟨oj, ioj, k1, k2, k3, k4, _⟩ := oi0 j (by omega)
              have := f2 j oj (by omega) hij k1 hb
              simp only [freePair, Bool.and_eq_true] at this
              rw [k4] at hdj
              rw [h4] at hdt
              exact absurd hdj ((Oper.apart_spec this.1).2.1 t hdt)
        · rw [valS_put (S := fun j => l.getD j false) hS hdt]
          have : (a'.put o.dst c).tmps.getD t undef = a'.tmps.getD t undef := by
            rw [h4] at hdt
            cases hd2 : o.dst with
            | none => rfl
            | some d =>
              have : d ≠ t := fun e => hdt (by rw [hd2, e])
              simp [Act.put, Array.getElem?_setIfInBounds_ne this]
          rw [this]
          exact (j10 t).mono g5.stays g5.above
    -- the objects
    have later : E i < 2 → ∀ j, j < c0 → 2 ≤ E j → ((l.setIfInBounds i true).getD j false = true ↔ j < h) := fun hEi j hj h2 => by
      rw [getD_set (by omega), if_neg (by intro e; subst e; omega)]
      exact j6 j hj h2
    have before2 : 2 ≤ E i → h ≤ i := fun h8 => by
      rcases Nat.lt_or_ge i h with h9 | h9
      · have := (j6 i hlt0 h8).2 h9; rw [hnl] at this; cases this
      · exact h9
    have after2 : 2 ≤ E i → ∀ j, j < c0 → 2 ≤ E j → ((l.setIfInBounds i true).getD j false = true ↔ j < i + 1) := fun hEi j hj h8 => by
      rw [getD_set (by omega)]
      have hle := before2 hEi
      rcases Nat.lt_trichotomy j i with h9 | h9 | h9
      · rw [if_neg (by omega)]; exact ⟨fun _ => by omega, fun _ => ahead (by omega) j h9 h8⟩
      · subst h9; simp
      · rw [if_neg (by omega)]
        exact ⟨fun e => by have := (j6 j hj h8).1 e; omega, fun e => by omega⟩
    have guardV : ∀ t b, io.guard = some (t, b) → t ∈ o.looksAt all.toArray := fun t b hg => by
      rcases c4 with ⟨_, c5⟩ | ⟨j, b', g, t', k1, k2, k3, k4⟩
      · rw [c5] at hg; cases hg
      · rw [k4] at hg
        cases hg
        refine List.mem_append_right _ ?_
        simp [k1, k2, k3]
    rcases h7.out with ⟨t, b, hg, hv, hV, hB, hL⟩ | ⟨hg, hs, hs0, hs1⟩
    · rw [if_neg (by
        rw [unwanted_of h6 hg ((agree t (guardV t _ hg)).unw hv)]
        simp)]
      refine ⟨fun _ _ => trivial, ?_⟩
      have hund : VA ⟨blocks μ', ba.length, μ'⟩ w' undef (V i) := by rw [hV]; exact .skip _ _
      rcases Nat.lt_or_ge (E i) 2 with h8 | h8
      · exact after _ μ' w' h j5 (later h8) j7 j8 (.refl _ _) hund
      · obtain ⟨s1, s2⟩ := here (by omega) (before2 h8)
        exact after _ μ' w' (i + 1) (by omega) (after2 h8) (by rw [hB, hL, s1, s2]; exact j7) (by rw [hB, s1]; exact j8) (.refl _ _) hund
    · rw [if_pos (wanted_of h6 fun t b hgt => by have := agree t (guardV t b hgt); rw [hg t b hgt] at this; exact this.bool_inv)]
      rcases Nat.lt_or_ge (E i) 2 with h8 | h8
      · rcases Nat.eq_zero_or_pos (E i) with h9 | h9
        · refine hs0 (by rw [← h3]; exact h9) (B' h) (L h) ro nd μ' w' a' next Q j7 opn fun c μ'' w'' g1 g2 g3 g4 => ?_
          rw [j8] at g1
          exact after c μ'' w'' h j5 (later h8) g2 j8 g3 g1
        · have hE1 : E i = 1 := by omega
          have hx : StepAt P o (V i) (F i) (B' h) (L h) (B' h) (L h) := by
            rcases Nat.lt_or_ge i h with hlt | hge
            · cases hmm : m with
              | true =>
                refine hread hmm i h o io hlt j5 h1 h2 (by rw [← h3]; exact hE1) hg fun k hik hkh hk2 => ?_
                cases hbit : ((befores all).getD k 0).testBit i with
                | false => rfl
                | true =>
                  obtain ⟨ok, iok, q1, _⟩ := oi0 k (by omega)
                  have hdone := (j6 k (by omega) hk2).2 hkh
                  have hq := hbef k ok q1 _ j2 (j2 k ok q1 hdone) i hbit
                  rw [hnl] at hq
                  cases hq
              | false =>
                obtain ⟨b1, X, b2⟩ := grow i h (by omega) j5 fun j hj hj2 => by
                  rcases Nat.lt_or_ge (E j) 2 with h8 | h8
                  · exact .inl h8
                  · have hij : i < j := by
                      rcases Nat.lt_or_ge i j with h' | h'
                      · exact h'
                      · have : i = j := by omega
                        subst this; omega
                    obtain ⟨oj, ioj, k1, _⟩ := oi0 j (by omega)
                    have := f2 j oj (by omega) hij k1 ((j6 j (by omega) h8).2 hj2)
                    simp only [freePair, Bool.and_eq_true, Bool.or_eq_true, beq_iff_eq, hmm, Bool.false_eq_true, false_or] at this
                    right; omega
                have := hs1 (by rw [← h3]; exact hE1) X
                rw [← b1, ← b2] at this
                exact this
            · obtain ⟨s1, s2⟩ := here (by omega) hge
              have := hs1 (by rw [← h3]; exact hE1) []
              rw [List.append_nil, s1, s2] at this
              exact this
          refine hx ro nd μ' w' a' next Q j7 opn fun c μ'' w'' g1 g2 g3 g4 => ?_
          rw [j8] at g1
          exact after c μ'' w'' h j5 (later h8) g2 j8 g3 g1
      · obtain ⟨s1, s2⟩ := here (by omega) (before2 h8)
        have b3 : (B' i).length = ba.length := by rw [s1]; exact j8
        refine hs ro nd μ' w' a' next Q (by rw [s1, s2]; exact j7) (by rw [s1]; exact opn) fun c μ'' w'' g1 g2 g3 g4 => ?_
        rw [b3] at g1 g4
        exact after c μ'' w'' (i + 1) (by omega) (after2 h8) g2 g4 g3 g1
  have main : ∀ (fuel : Nat) (l : Array Bool) (a' : Act) (w' : World), l.count false ≤ fuel → J l a' w' → wpAnyIn (FW ro) nd P .any all.toArray Q fuel l a' w' := by
    intro fuel
    induction fuel with
    | zero =>
      intro l a' w' hcount hj
      have hnil : Region.ready .any all.toArray l = [] := by
        rw [List.eq_nil_iff_forall_not_mem]
        intro i hi
        obtain ⟨g1, g2, _⟩ := (ready l i hj.1).1 hi
        have hil : i < l.size := by rw [hj.1]; exact g1
        have : false ∈ l := by
          have : l[i] = false := by simpa [hil] using g2
          rw [← this]; exact Array.getElem_mem hil
        have := Array.count_pos_iff.2 this
        omega
      exact ⟨hnil, done l a' w' hj hnil⟩
    | succ fuel ih =>
      intro l a' w' hcount hj
      refine ⟨fun hnil => done l a' w' hj hnil, fun i hi => step l a' w' i hj hi _ fun a'' w'' hj' => ih _ _ _ ?_ hj'⟩
      obtain ⟨g1, g2, _⟩ := (ready l i hj.1).1 hi
      have hil : i < l.size := by rw [hj.1]; exact g1
      have hval : l[i] = false := by simpa [hil] using g2
      have hpos : 0 < l.count false := Array.count_pos_iff.2 (by rw [← hval]; exact Array.getElem_mem hil)
      have : l.setIfInBounds i true = l.set i true hil := by simp [Array.setIfInBounds, hil]
      rw [this, Array.count_set]
      simp [hval]
      omega
  refine wpIn_region_any hm (main _ _ _ _ ?_ ?_)
  · rw [Array.count_replicate]; split <;> omega
  · have hrep : ∀ j, (Array.replicate all.toArray.size false).getD j false = false := fun j => by
      simp only [Array.getD_eq_getD_getElem?]
      by_cases hj : j < all.toArray.size
      · simp at hj; simp [hj]
      · simp at hj; rw [Array.getElem?_eq_none (by simpa using hj)]; rfl
    refine ⟨by simp [hn], fun i o _ hi => ?_, hr.size, rfl, fun j _ => hrep j, 0, μ, by omega, fun j hj _ => ?_, ?_, by rw [e2], ?_, fun t => ?_⟩
    · have hi : (Array.replicate all.toArray.size false).getD i false = true := hi
      rw [hrep] at hi; cases hi
    · rw [hrep]; simp
    · rw [e2, e3]
      exact hr.inv.grow (le_drew μ w) fun b _ => rfl
    · exact le_drew μ w
    · have : valS D V fr (fun j => (Array.replicate all.toArray.size false).getD j false) c0 t = getF fr t := by
        have := valS_agree (D := D) (V := V) (fr := fr) (S := fun j => (Array.replicate all.toArray.size false).getD j false) (i := 0) (t := t) (n := c0) fun j hj _ => by rw [hrep]; simp
        rw [this, Nat.min_zero]; rfl
      rw [this]
      exact (hr.vals t).mono (le_drew μ w).stays (.refl _)

theorem dops_sound {own : List Nat} {all : List Oper} {is : List IO_} {id : Nat} {Q : Exit → Act → World → Prop} {K : FR → List Ob → List Ob → Prop} {μ : List MI} {w : World} {a : Act} {fr : FR} {ba lo : List Ob} (hc : compOps P N own all 0 all = some is) (hd : drawOk false all is = true) (hm : P.follows .mixedOrders = true) (h : opsV P true is fr ba lo K) (hr : Rel N B T μ w a fr ba lo)
    (hq : ∀ fr' ba' lo' μ' w' a', K fr' ba' lo' → Rel N B T μ' w' a' fr' ba' lo' → Le μ w μ' w' → ba'.length = ba.length → Q .normal a' w') : (Code.region id all.toArray true).wpIn (FW ro) nd P Q a w := by
  obtain ⟨F, B', L, V, e1, e2, e3, hk, hst⟩ := canon all is 0 hc h
  exact any_sound (X := fun _ _ _ => False) hc hd hm e1 e2 e3 all.length (Nat.le_refl _) (fun _ => hk) (fun j o io _ => hst j o io) (fun e => by cases e) (fun e => absurd e (Nat.lt_irrefl _)) (fun _ _ _ _ _ _ e => e.elim) hr hq

/-! ### where readers may come behind writers -/

theorem seen_of {i : IOp} {fr : FR} {ba lo : List Ob} {v : AV} {p : Prop} (he : effect i = 1) (h : opV P true i fr ba lo fun v' _ _ => v' = v ∧ p) : p ∧ Seen P (i, fr, v) ba lo := by
  obtain ⟨v', ⟨rfl, hp⟩, h2⟩ := opV_reader he h
  refine ⟨hp, fun K hk => ?_⟩
  have := h2 [] K (by rw [List.append_nil]; exact hk)
  rwa [List.append_nil] at this

theorem freeK_out {bits : Nat} : ∀ {l : LG} {k : LG → Prop}, freeK bits l k → ∃ l', k l' ∧ (∀ x, x ∈ l' → x ∈ l) ∧ ∀ x, x ∈ l → bits.testBit x.1 = false → x ∈ l'
  | [], k, h => ⟨[], h, fun x hx => hx, fun x hx => by cases hx⟩
  | (n, y) :: r, k, h => by
    replace h : match bits.testBit n with | true => freeK bits r k | false => freeK bits r fun r => k ((n, y) :: r) := h
    cases hb : bits.testBit n with
    | true =>
      rw [hb] at h
      obtain ⟨l', h1, h2, h3⟩ := freeK_out h
      refine ⟨l', h1, fun z hy => List.mem_cons.2 (.inr (h2 z hy)), fun z hy hy2 => ?_⟩
      rcases List.mem_cons.1 hy with rfl | hy
      · rw [hb] at hy2; cases hy2
      · exact h3 z hy hy2
    | false =>
      rw [hb] at h
      obtain ⟨l', h1, h2, h3⟩ := freeK_out h
      refine ⟨(n, y) :: l', h1, fun z hy => ?_, fun z hy hy2 => ?_⟩
      · rcases List.mem_cons.1 hy with rfl | hy
        · exact List.mem_cons.2 (.inl rfl)
        · exact List.mem_cons.2 (.inr (h2 z hy))
      · rcases List.mem_cons.1 hy with rfl | hy
        · exact List.mem_cons.2 (.inl rfl)
        · exact List.mem_cons.2 (.inr (h3 z hy hy2))

theorem lookAgain_out : ∀ (l : LG) {ba lo : List Ob} {K : Prop}, (∀ x, x ∈ l → effect x.2.1 = 1) → lookAgain P l ba lo K → K ∧ ∀ x, x ∈ l → Seen P x.2 ba lo
  | [], ba, lo, K, _, h => ⟨h, fun x hx => by cases hx⟩
  | x :: r, ba, lo, K, he, h => by
    obtain ⟨h1, h2⟩ := seen_of (he x (by simp)) (show opV P true x.2.1 x.2.2.1 ba lo fun v _ _ => v = x.2.2.2 ∧ lookAgain P r ba lo K from h)
    obtain ⟨h3, h4⟩ := lookAgain_out r (fun y hy => he y (by simp [hy])) h1
    refine ⟨h3, fun y hy => ?_⟩
    simp only [List.mem_cons] at hy
    rcases hy with rfl | hy
    · exact h2
    · exact h4 y hy

theorem effect_le (i : IOp) : effect i ≤ 3 := by
  cases i <;> simp only [effect] <;> first | omega | (split <;> omega)

/-- What follows an operation. -/
def nextE1 (P : Program) (o : IO_) (r : List IO_) (bs : List Nat) (idx : Nat) (fr : FR) (K : FR → List Ob → List Ob → Prop) (v : AV) (ba lo : List Ob) (log : LG) : Prop :=
  match o.split with
  | false => putK fr o.dst v fun fr => opsE P r bs idx log fr ba lo K
  | true => match v with
    | .p (.bool b) => splitB b fun b => putK fr o.dst (.p (.bool b)) fun fr => opsE P r bs idx log fr ba lo K
    | _ => False
def nextE (P : Program) (bits : Nat) (o : IO_) (r : List IO_) (bs : List Nat) (idx : Nat) (log : LG) (fr : FR) (K : FR → List Ob → List Ob → Prop) (v : AV) (ba lo : List Ob) : Prop :=
  logS P bits idx o.op fr v log ba lo (nextE1 P o r bs (idx + 1) fr K v ba lo)

theorem nextE1_out {o : IO_} {r : List IO_} {bs : List Nat} {idx : Nat} {log : LG} {K : FR → List Ob → List Ob → Prop} {fr : FR} {v : AV} {ba lo : List Ob} (h : nextE1 P o r bs idx fr K v ba lo log) : opsE P r bs idx log (putF fr o.dst v) ba lo K := by
  unfold nextE1 at h
  split at h
  · rwa [putK_eq] at h
  · split at h
    · have := splitB_out h
      rwa [putK_eq] at this
    · exact h.elim

/-- What is looked at again from here on. -/
theorem nextE_out {bits : Nat} {o : IO_} {r : List IO_} {bs : List Nat} {idx : Nat} {log : LG} {K : FR → List Ob → List Ob → Prop} {fr : FR} {v : AV} {ba lo : List Ob} (hl : ∀ x, x ∈ log → effect x.2.1 = 1) (h : nextE P bits o r bs idx log fr K v ba lo) :
    ∃ log', opsE P r bs (idx + 1) log' (putF fr o.dst v) ba lo K ∧ (effect o.op < 2 → (∀ x, x ∈ log → x ∈ log') ∧ (∀ x, x ∈ log' → x ∈ log ∨ (x = (idx, o.op, fr, v) ∧ effect o.op = 1)) ∧ (effect o.op = 1 → (idx, o.op, fr, v) ∈ log')) ∧
      (2 ≤ effect o.op → (∀ x, x ∈ log' → x ∈ log ∧ Seen P x.2 ba lo) ∧ ∀ x, x ∈ log → bits.testBit x.1 = false → x ∈ log') := by
  unfold nextE logS at h
  split at h
  · rename_i he
    exact ⟨log, nextE1_out h, fun _ => ⟨fun x hx => hx, fun x hx => .inl hx, fun e => by omega⟩, fun e => by omega⟩
  · rename_i he
    exact ⟨_, nextE1_out h, fun _ => ⟨fun x hx => List.mem_cons.2 (.inr hx), fun x hx => by
      rcases List.mem_cons.1 hx with hx | hx
      · exact .inr ⟨hx, he⟩
      · exact .inl hx, fun _ => List.mem_cons.2 (.inl rfl)⟩, fun e => by omega⟩
  · rename_i he0 he1
    obtain ⟨log', h1, h2, h3⟩ := freeK_out h
    obtain ⟨h4, h5⟩ := lookAgain_out log' (fun x hx => hl x (h2 x hx)) h1
    refine ⟨log', nextE1_out h4, fun e => ?_, fun _ => ⟨fun x hx => ⟨h2 x hx, h5 x hx⟩, h3⟩⟩
    exfalso
    have : effect o.op = 0 ∨ effect o.op = 1 := by omega
    rcases this with e | e
    · exact he0 e
    · exact he1 e

theorem Unw.ne {v : AV} {b : Bool} (h : Unw v b) : v ≠ .p (.bool b) := by
  cases h with
  | bool b' => intro e; cases b' <;> cases e
  | skip => intro e; cases e

theorem opsE_cons {o : IO_} {r : List IO_} {bs : List Nat} {idx : Nat} {log : LG} {K : FR → List Ob → List Ob → Prop} {fr : FR} {ba lo : List Ob} (h : opsE P (o :: r) bs idx log fr ba lo K) :
    ((∀ t b, o.guard = some (t, b) → getF fr t = .p (.bool b)) ∧ opV P true o.op fr ba lo (nextE P (bs.headD 0) o r bs.tail idx log fr K)) ∨
    (∃ t b, o.guard = some (t, b) ∧ Unw (getF fr t) b ∧ opsE P r bs.tail (idx + 1) log (putF fr o.dst (.p (.tup []))) ba lo K) := by
  replace h : opsEStep P (bs.headD 0) idx o (opsE P r bs.tail (idx + 1)) log fr ba lo K := h
  unfold opsEStep at h
  split at h
  · rename_i hg
    exact .inl ⟨fun t b e => (by rw [hg] at e; cases e), h⟩
  · rename_i t b hg
    rw [getK_eq] at h
    split at h
    · have e : getF fr t = .p (.bool true) := by assumption
      exact .inl ⟨fun t' b' e' => (by rw [hg] at e'; cases e'; exact e), h⟩
    · have e : getF fr t = .p (.bool false) := by assumption
      exact .inl ⟨fun t' b' e' => (by rw [hg] at e'; cases e'; exact e), h⟩
    · have e : getF fr t = .p (.bool true) := by assumption
      rw [putK_eq] at h
      exact .inr ⟨t, false, hg, by rw [e]; exact .bool true, h⟩
    · have e : getF fr t = .p (.bool false) := by assumption
      rw [putK_eq] at h
      exact .inr ⟨t, true, hg, by rw [e]; exact .bool false, h⟩
    · have e : getF fr t = .p (.tup []) := by assumption
      rw [putK_eq] at h
      exact .inr ⟨t, true, hg, by rw [e]; exact .skip _, h⟩
    · have e : getF fr t = .p (.tup []) := by assumption
      rw [putK_eq] at h
      exact .inr ⟨t, false, hg, by rw [e]; exact .skip _, h⟩
    · exact h.elim

/-- The run in the text's order. -/
theorem canonE {own : List Nat} {all : List Oper} {K : FR → List Ob → List Ob → Prop} : ∀ (l : List Oper) (is : List IO_) (i : Nat), compOps P N own all i l = some is → ∀ {bs : List Nat} {idx : Nat} {log : LG} {fr : FR} {ba lo : List Ob}, (∀ x, x ∈ log → x.1 < idx ∧ effect x.2.1 = 1 ∧ Seen P x.2 ba lo) → opsE P is bs idx log fr ba lo K →
    ∃ (F : Nat → FR) (B' L : Nat → List Ob) (V : Nat → AV), F 0 = fr ∧ B' 0 = ba ∧ L 0 = lo ∧ K (F l.length) (B' l.length) (L l.length) ∧
      (∀ j o io, l[j]? = some o → is[j]? = some io → StepC P o io (F j) (F (j + 1)) (B' j) (L j) (B' (j + 1)) (L (j + 1)) (V j)) ∧
      (∀ x h, x ∈ log → h ≤ l.length → (∀ k, k < h → 2 ≤ effect (is.getD k default).op → (bs.getD k 0).testBit x.1 = false) → Seen P x.2 (B' h) (L h)) ∧
      (∀ j h o io, j < h → h ≤ l.length → l[j]? = some o → is[j]? = some io → effect io.op = 1 → (∀ t b, io.guard = some (t, b) → getF (F j) t = .p (.bool b)) → (∀ k, j < k → k < h → 2 ≤ effect (is.getD k default).op → (bs.getD k 0).testBit (idx + j) = false) → Seen P (io.op, F j, V j) (B' h) (L h))
  | [], is, i, hc, bs, idx, log, fr, ba, lo, hl, h => by
    cases hc
    exact ⟨fun _ => fr, fun _ => ba, fun _ => lo, fun _ => .p .undef, rfl, rfl, rfl, h, fun j o io e => by simp at e, fun x h hx _ _ => (hl x hx).2.2, fun j h o io _ _ e => by simp at e⟩
  | o :: l, is, i, hc, bs, idx, log, fr, ba, lo, hl, h => by
    simp only [compOps] at hc
    split at hc
    · rename_i io ios hio hios
      cases hc
      obtain ⟨c1, c2, c3, c4⟩ := compI_out hio
      have hbs : ∀ k, bs.tail.getD k 0 = bs.getD (k + 1) 0 := fun k => by cases bs <;> simp
      have hb0 : bs.headD 0 = bs.getD 0 0 := by cases bs <;> simp
      have rest : ∀ {v : AV} {ba' lo' : List Ob} {log' : LG}, (∀ x, x ∈ log → (2 ≤ effect io.op → (bs.getD 0 0).testBit x.1 = false) → x ∈ log') → (∀ x, x ∈ log' → x.1 < idx + 1 ∧ effect x.2.1 = 1 ∧ Seen P x.2 ba' lo') → (effect io.op = 1 → (∀ t b, io.guard = some (t, b) → getF fr t = .p (.bool b)) → (idx, io.op, fr, v) ∈ log') → StepC P o io fr (putF fr io.dst v) ba lo ba' lo' v → opsE P ios bs.tail (idx + 1) log' (putF fr io.dst v) ba' lo' K → ∃ (F : Nat → FR) (B' L : Nat → List Ob) (V : Nat → AV), F 0 = fr ∧ B' 0 = ba ∧ L 0 = lo ∧ K (F (o :: l).length) (B' (o :: l).length) (L (o :: l).length) ∧
          (∀ j o' io', (o :: l)[j]? = some o' → (io :: ios)[j]? = some io' → StepC P o' io' (F j) (F (j + 1)) (B' j) (L j) (B' (j + 1)) (L (j + 1)) (V j)) ∧
          (∀ x h, x ∈ log → h ≤ (o :: l).length → (∀ k, k < h → 2 ≤ effect ((io :: ios).getD k default).op → (bs.getD k 0).testBit x.1 = false) → Seen P x.2 (B' h) (L h)) ∧
          (∀ j h o' io', j < h → h ≤ (o :: l).length → (o :: l)[j]? = some o' → (io :: ios)[j]? = some io' → effect io'.op = 1 → (∀ t b, io'.guard = some (t, b) → getF (F j) t = .p (.bool b)) → (∀ k, j < k → k < h → 2 ≤ effect ((io :: ios).getD k default).op → (bs.getD k 0).testBit (idx + j) = false) → Seen P (io'.op, F j, V j) (B' h) (L h)) := fun {v ba' lo' log'} hsub hl' hin hs h => by
        obtain ⟨F, B', L, V, e1, e2, e3, hk, hst, hs1, hs2⟩ := canonE l ios (i + 1) hios hl' h
        refine ⟨fun j => match j with | 0 => fr | j + 1 => F j, fun j => match j with | 0 => ba | j + 1 => B' j, fun j => match j with | 0 => lo | j + 1 => L j, fun j => match j with | 0 => v | j + 1 => V j, rfl, rfl, rfl, hk, fun j o' io' h1 h2 => ?_, fun x h hx hh hfree => ?_, fun j h o' io' hjh hh h1 h2 h3 h4 hfree => ?_⟩
        · cases j with
          | zero =>
            simp at h1 h2
            subst h1; subst h2
            show StepC P o io fr (F 0) ba lo (B' 0) (L 0) v
            rw [e1, e2, e3]; exact hs
          | succ j => exact hst j o' io' (by simpa using h1) (by simpa using h2)
        · cases h with
          | zero => exact (hl x hx).2.2
          | succ h =>
            refine hs1 x h (hsub x hx fun he => hfree 0 (by omega) (by simpa using he)) (by simpa using hh) fun k hk he => ?_
            rw [hbs]
            exact hfree (k + 1) (by omega) (by simpa using he)
        · cases h with
          | zero => omega
          | succ h =>
            cases j with
            | zero =>
              simp at h1 h2
              subst h1; subst h2
              refine hs1 _ h (hin h3 h4) (by simpa using hh) fun k hk he => ?_
              rw [hbs]
              have := hfree (k + 1) (by omega) (by omega) (by simpa using he)
              simpa using this
            | succ j =>
              refine hs2 j h o' io' (by omega) (by simpa using hh) (by simpa using h1) (by simpa using h2) h3 h4 fun k hjk hk he => ?_
              rw [hbs]
              have := hfree (k + 1) (by omega) (by omega) (by simpa using he)
              have e : idx + 1 + j = idx + (j + 1) := by omega
              rw [e]; exact this
      rcases opsE_cons h with ⟨hg, h⟩ | ⟨t, b, hg, hv, h⟩
      · obtain ⟨v, ba', lo', hk, s1, s2, s3, s4, s5, s6⟩ := step_of c2 h
        obtain ⟨log', k1, k2, k3⟩ := nextE_out (fun x hx => (hl x hx).2.1) hk
        refine rest (log' := log') (fun x hx hfree => ?_) (fun x hx => ?_) (fun e _ => ?_) ⟨rfl, s1, s2, .inr ⟨hg, s3, s4, s5⟩⟩ k1
        · rcases Nat.lt_or_ge (effect io.op) 2 with he | he
          · exact (k2 he).1 x hx
          · exact (k3 he).2 x hx (by rw [hb0]; exact hfree he)
        · rcases Nat.lt_or_ge (effect io.op) 2 with he | he
          · obtain ⟨g1, g2⟩ := s1 he
            rcases (k2 he).2.1 x hx with hx | ⟨rfl, e1⟩
            · obtain ⟨q1, q2, q3⟩ := hl x hx
              exact ⟨by omega, q2, by rw [g1, g2]; exact q3⟩
            · exact ⟨by simp, e1, by rw [g1, g2]; exact s6 e1⟩
          · obtain ⟨q1, q2⟩ := (k3 he).1 x hx
            exact ⟨by have := (hl x q1).1; omega, (hl x q1).2.1, q2⟩
        · exact (k2 (by omega)).2.2 e
      · exact rest (log' := log) (fun x hx _ => hx) (fun x hx => by have := hl x hx; exact ⟨by omega, this.2.1, this.2.2⟩) (fun e hg' => by
          exact absurd (hg' t b hg) hv.ne) ⟨rfl, fun _ => ⟨rfl, rfl⟩, fun _ => ⟨rfl, [], by simp⟩, .inl ⟨t, b, hg, hv, rfl, rfl, rfl⟩⟩ h
    · cases hc

/-- What follows an operation. -/
def nextQ1 (P : Program) (o : IO_) (r : List IO_) (bs : List Nat) (idx : Nat) (fr : FR) (K : FR → List Ob → List Ob → Prop) (X : XV) (v : AV) (ba lo : List Ob) (log : LG) : Prop :=
  match o.split with
  | false => putK fr o.dst v fun fr => opsQ P r bs idx log fr ba lo K X
  | true => match v with
    | .p (.bool b) => splitB b fun b => putK fr o.dst (.p (.bool b)) fun fr => opsQ P r bs idx log fr ba lo K X
    | _ => False
def nextQ (P : Program) (bits : Nat) (o : IO_) (r : List IO_) (bs : List Nat) (idx : Nat) (log : LG) (fr : FR) (K : FR → List Ob → List Ob → Prop) (X : XV) (v : AV) (ba lo : List Ob) : Prop :=
  logS P bits idx o.op fr v log ba lo (nextQ1 P o r bs (idx + 1) fr K X v ba lo)

theorem nextQ1_out {o : IO_} {r : List IO_} {bs : List Nat} {idx : Nat} {log : LG} {K : FR → List Ob → List Ob → Prop} {X : XV} {fr : FR} {v : AV} {ba lo : List Ob} (h : nextQ1 P o r bs idx fr K X v ba lo log) : opsQ P r bs idx log (putF fr o.dst v) ba lo K X := by
  unfold nextQ1 at h
  split at h
  · rwa [putK_eq] at h
  · split at h
    · have := splitB_out h
      rwa [putK_eq] at this
    · exact h.elim

/-- What is looked at again from here on. -/
theorem nextQ_out {bits : Nat} {o : IO_} {r : List IO_} {bs : List Nat} {idx : Nat} {log : LG} {K : FR → List Ob → List Ob → Prop} {X : XV} {fr : FR} {v : AV} {ba lo : List Ob} (hl : ∀ x, x ∈ log → effect x.2.1 = 1) (h : nextQ P bits o r bs idx log fr K X v ba lo) :
    ∃ log', opsQ P r bs (idx + 1) log' (putF fr o.dst v) ba lo K X ∧ (effect o.op < 2 → (∀ x, x ∈ log → x ∈ log') ∧ (∀ x, x ∈ log' → x ∈ log ∨ (x = (idx, o.op, fr, v) ∧ effect o.op = 1)) ∧ (effect o.op = 1 → (idx, o.op, fr, v) ∈ log')) ∧
      (2 ≤ effect o.op → (∀ x, x ∈ log' → x ∈ log ∧ Seen P x.2 ba lo) ∧ ∀ x, x ∈ log → bits.testBit x.1 = false → x ∈ log') := by
  unfold nextQ logS at h
  split at h
  · rename_i he
    exact ⟨log, nextQ1_out h, fun _ => ⟨fun x hx => hx, fun x hx => .inl hx, fun e => by omega⟩, fun e => by omega⟩
  · rename_i he
    exact ⟨_, nextQ1_out h, fun _ => ⟨fun x hx => List.mem_cons.2 (.inr hx), fun x hx => by
      rcases List.mem_cons.1 hx with hx | hx
      · exact .inr ⟨hx, he⟩
      · exact .inl hx, fun _ => List.mem_cons.2 (.inl rfl)⟩, fun e => by omega⟩
  · rename_i he0 he1
    obtain ⟨log', h1, h2, h3⟩ := freeK_out h
    obtain ⟨h4, h5⟩ := lookAgain_out log' (fun x hx => hl x (h2 x hx)) h1
    refine ⟨log', nextQ1_out h4, fun e => ?_, fun _ => ⟨fun x hx => ⟨h2 x hx, h5 x hx⟩, h3⟩⟩
    exfalso
    have : effect o.op = 0 ∨ effect o.op = 1 := by omega
    rcases this with e | e
    · exact he0 e
    · exact he1 e

theorem opsQ_cons {o : IO_} {r : List IO_} {bs : List Nat} {idx : Nat} {log : LG} {K : FR → List Ob → List Ob → Prop} {X : XV} {fr : FR} {ba lo : List Ob} (h : opsQ P (o :: r) bs idx log fr ba lo K X) :
    (o.guard = none ∧ opVQ P o.op fr ba lo (nextQ P (bs.headD 0) o r bs.tail idx log fr K X) X) ∨
    ((∀ t b, o.guard = some (t, b) → getF fr t = .p (.bool b)) ∧ opV P true o.op fr ba lo (nextQ P (bs.headD 0) o r bs.tail idx log fr K X)) ∨
    (∃ t b, o.guard = some (t, b) ∧ Unw (getF fr t) b ∧ opsQ P r bs.tail (idx + 1) log (putF fr o.dst (.p (.tup []))) ba lo K X) := by
  replace h : opsQStep P (bs.headD 0) idx o (opsQ P r bs.tail (idx + 1)) log fr ba lo K X := h
  unfold opsQStep at h
  split at h
  · rename_i hg
    exact .inl ⟨hg, h⟩
  · rename_i t b hg
    rw [getK_eq] at h
    split at h
    · have e : getF fr t = .p (.bool true) := by assumption
      exact .inr (.inl ⟨fun t' b' e' => (by rw [hg] at e'; cases e'; exact e), h⟩)
    · have e : getF fr t = .p (.bool false) := by assumption
      exact .inr (.inl ⟨fun t' b' e' => (by rw [hg] at e'; cases e'; exact e), h⟩)
    · have e : getF fr t = .p (.bool true) := by assumption
      rw [putK_eq] at h
      exact .inr (.inr ⟨t, false, hg, by rw [e]; exact .bool true, h⟩)
    · have e : getF fr t = .p (.bool false) := by assumption
      rw [putK_eq] at h
      exact .inr (.inr ⟨t, true, hg, by rw [e]; exact .bool false, h⟩)
    · have e : getF fr t = .p (.tup []) := by assumption
      rw [putK_eq] at h
      exact .inr (.inr ⟨t, true, hg, by rw [e]; exact .skip _, h⟩)
    · have e : getF fr t = .p (.tup []) := by assumption
      rw [putK_eq] at h
      exact .inr (.inr ⟨t, false, hg, by rw [e]; exact .skip _, h⟩)
    · exact h.elim
theorem opVQ_plain {i : IOp} (hn : isP i = false) {fr : FR} {ba lo : List Ob} {K : AV → List Ob → List Ob → Prop} {X : XV} (h : opVQ P i fr ba lo K X) : opV P true i fr ba lo K := by
  cases i <;> first | exact h | cases hn
theorem isP_effect {i : IOp} (hn : isP i = true) : effect i = 2 := by cases i <;> first | rfl | cases hn
theorem callE_of {f : Nat} {as : List AV} {own : List Nat} {o : Oper} {i : IOp} {fr : FR} {ba lo : List Ob} {K : AV → List Ob → List Ob → Prop} {X : XV} (hc : compO P own o = some i) (hp : isP i = true)
    (to : ∀ (K' : AV → List Ob → List Ob → Prop) (X' : XV), CallPV P f as ba lo K' X' → opVP P i fr ba lo K' X') (h : CallPE P f as ba lo K X) : (∃ v ba' lo', K v ba' lo' ∧ StepAt P o v fr ba lo ba' lo') ∨ StepD P o fr ba lo X := by
  rcases h.out with ⟨r, ba', lo', h1, hk⟩ | ⟨ch, ba', lo', h1, hx⟩
  · refine .inl ⟨r, ba', lo', hk, fun ro nd μ w a next Q hi ho hnext => ?_⟩
    refine call_opP hc hp (to _ _ h1) hi ho (fun v r' μ' w' b l g1 g2 g3 g4 g5 => ?_) fun _ _ _ _ _ _ _ _ e => e.elim
    obtain ⟨rfl, rfl, rfl⟩ := g5
    exact hnext v μ' w' g1 g2 g3 g4
  · refine .inr fun ro nd μ w a next Q hi ho hpan => ?_
    refine call_opP hc hp (to _ _ h1) hi ho (fun _ _ _ _ _ _ _ _ _ _ e => e.elim) fun ch' μ' w' b l g2 g3 g4 g5 => ?_
    obtain ⟨rfl, rfl, rfl⟩ := g5
    exact hpan _ μ' w' _ _ hx g2 g3 g4
theorem callQ_out {own : List Nat} {o : Oper} {i : IOp} {fr : FR} {ba lo : List Ob} {K : AV → List Ob → List Ob → Prop} {X : XV} (hc : compO P own o = some i) (hp : isP i = true) (h : opVQ P i fr ba lo K X) :
    (∃ v ba' lo', K v ba' lo' ∧ StepAt P o v fr ba lo ba' lo') ∨ StepD P o fr ba lo X := by
  cases i with
  | callP f args =>
    simp only [opVQ, evsK_eq] at h
    exact callE_of hc hp (fun K' X' h => by simp only [opVP, evsK_eq]; exact h) h
  | callvP x args =>
    simp only [opVQ, evK_eq, evsK_eq] at h
    split at h
    · rename_i f e1
      obtain ⟨hen, h⟩ := h
      exact callE_of hc hp (fun K' X' h => by simp only [opVP, evK_eq, evsK_eq, e1]; exact ⟨hen, h⟩) h
    · rename_i f first cap e1
      obtain ⟨hen, h⟩ := h
      exact callE_of hc hp (fun K' X' h => by simp only [opVP, evK_eq, evsK_eq, e1]; exact ⟨hen, h⟩) h
    · exact h.elim
  | throw x =>
    simp only [opVQ, evK_eq] at h
    refine .inr fun ro nd μ w a next Q hi ho hpan => ?_
    refine call_opP (K := fun _ _ _ => False) (X := X) hc hp (by simp only [opVP, evK_eq]; exact h) hi ho (fun _ _ _ _ _ _ _ _ _ _ e => e.elim) fun ch μ' w' b l g2 g3 g4 g5 => hpan ch μ' w' b l g5 g2 g3 g4
  | _ => cases hp

/-- The run in the text's order. -/
theorem canonQ {own : List Nat} {all : List Oper} {K : FR → List Ob → List Ob → Prop} {X : XV} : ∀ (l : List Oper) (is : List IO_) (i : Nat), compOps P N own all i l = some is → ∀ {bs : List Nat} {idx : Nat} {log : LG} {fr : FR} {ba lo : List Ob}, (∀ x, x ∈ log → x.1 < idx ∧ effect x.2.1 = 1 ∧ Seen P x.2 ba lo) → opsQ P is bs idx log fr ba lo K X →
    ∃ (F : Nat → FR) (B' L : Nat → List Ob) (V : Nat → AV) (c0 : Nat), c0 ≤ l.length ∧ F 0 = fr ∧ B' 0 = ba ∧ L 0 = lo ∧ (c0 = l.length → K (F c0) (B' c0) (L c0)) ∧ (c0 < l.length → ∀ o io, l[c0]? = some o → is[c0]? = some io → io.guard = none ∧ isP io.op = true ∧ StepD P o (F c0) (B' c0) (L c0) X) ∧
      (∀ j o io, j < c0 → l[j]? = some o → is[j]? = some io → StepC P o io (F j) (F (j + 1)) (B' j) (L j) (B' (j + 1)) (L (j + 1)) (V j)) ∧
      (∀ x h, x ∈ log → h ≤ c0 → (∀ k, k < h → 2 ≤ effect (is.getD k default).op → (bs.getD k 0).testBit x.1 = false) → Seen P x.2 (B' h) (L h)) ∧
      (∀ j h o io, j < h → h ≤ c0 → l[j]? = some o → is[j]? = some io → effect io.op = 1 → (∀ t b, io.guard = some (t, b) → getF (F j) t = .p (.bool b)) → (∀ k, j < k → k < h → 2 ≤ effect (is.getD k default).op → (bs.getD k 0).testBit (idx + j) = false) → Seen P (io.op, F j, V j) (B' h) (L h))
  | [], is, i, hc, bs, idx, log, fr, ba, lo, hl, h => by
    cases hc
    exact ⟨fun _ => fr, fun _ => ba, fun _ => lo, fun _ => .p .undef, 0, Nat.le_refl _, rfl, rfl, rfl, fun _ => h, fun e => absurd e (Nat.lt_irrefl _), fun j o io e => by omega, fun x h hx _ _ => (hl x hx).2.2, fun j h o io e1 e2 => by omega⟩
  | o :: l, is, i, hc, bs, idx, log, fr, ba, lo, hl, h => by
    simp only [compOps] at hc
    split at hc
    · rename_i io ios hio hios
      cases hc
      obtain ⟨c1, c2, c3, c4⟩ := compI_out hio
      have hbs : ∀ k, bs.tail.getD k 0 = bs.getD (k + 1) 0 := fun k => by cases bs <;> simp
      have hb0 : bs.headD 0 = bs.getD 0 0 := by cases bs <;> simp
      have rest : ∀ {v : AV} {ba' lo' : List Ob} {log' : LG}, (∀ x, x ∈ log → (2 ≤ effect io.op → (bs.getD 0 0).testBit x.1 = false) → x ∈ log') → (∀ x, x ∈ log' → x.1 < idx + 1 ∧ effect x.2.1 = 1 ∧ Seen P x.2 ba' lo') → (effect io.op = 1 → (∀ t b, io.guard = some (t, b) → getF fr t = .p (.bool b)) → (idx, io.op, fr, v) ∈ log') → StepC P o io fr (putF fr io.dst v) ba lo ba' lo' v → opsQ P ios bs.tail (idx + 1) log' (putF fr io.dst v) ba' lo' K X → ∃ (F : Nat → FR) (B' L : Nat → List Ob) (V : Nat → AV) (c0 : Nat), c0 ≤ (o :: l).length ∧ F 0 = fr ∧ B' 0 = ba ∧ L 0 = lo ∧ (c0 = (o :: l).length → K (F c0) (B' c0) (L c0)) ∧ (c0 < (o :: l).length → ∀ o' io', (o :: l)[c0]? = some o' → (io :: ios)[c0]? = some io' → io'.guard = none ∧ isP io'.op = true ∧ StepD P o' (F c0) (B' c0) (L c0) X) ∧
          (∀ j o' io', j < c0 → (o :: l)[j]? = some o' → (io :: ios)[j]? = some io' → StepC P o' io' (F j) (F (j + 1)) (B' j) (L j) (B' (j + 1)) (L (j + 1)) (V j)) ∧
          (∀ x h, x ∈ log → h ≤ c0 → (∀ k, k < h → 2 ≤ effect ((io :: ios).getD k default).op → (bs.getD k 0).testBit x.1 = false) → Seen P x.2 (B' h) (L h)) ∧
          (∀ j h o' io', j < h → h ≤ c0 → (o :: l)[j]? = some o' → (io :: ios)[j]? = some io' → effect io'.op = 1 → (∀ t b, io'.guard = some (t, b) → getF (F j) t = .p (.bool b)) → (∀ k, j < k → k < h → 2 ≤ effect ((io :: ios).getD k default).op → (bs.getD k 0).testBit (idx + j) = false) → Seen P (io'.op, F j, V j) (B' h) (L h)) := fun {v ba' lo' log'} hsub hl' hin hs h => by
        obtain ⟨F, B', L, V, c0, hcl, e1, e2, e3, hk, hdd, hst, hs1, hs2⟩ := canonQ l ios (i + 1) hios hl' h
        refine ⟨fun j => match j with | 0 => fr | j + 1 => F j, fun j => match j with | 0 => ba | j + 1 => B' j, fun j => match j with | 0 => lo | j + 1 => L j, fun j => match j with | 0 => v | j + 1 => V j, c0 + 1, by simp; omega, rfl, rfl, rfl, fun e => hk (by simpa using e), fun e o' io' q1 q2 => hdd (by simpa using e) o' io' (by simpa using q1) (by simpa using q2), fun j o' io' h0 h1 h2 => ?_, fun x h hx hh hfree => ?_, fun j h o' io' hjh hh h1 h2 h3 h4 hfree => ?_⟩
        · cases j with
          | zero =>
            simp at h1 h2
            subst h1; subst h2
            show StepC P o io fr (F 0) ba lo (B' 0) (L 0) v
            rw [e1, e2, e3]; exact hs
          | succ j => exact hst j o' io' (by omega) (by simpa using h1) (by simpa using h2)
        · cases h with
          | zero => exact (hl x hx).2.2
          | succ h =>
            refine hs1 x h (hsub x hx fun he => hfree 0 (by omega) (by simpa using he)) (by omega) fun k hk he => ?_
            rw [hbs]
            exact hfree (k + 1) (by omega) (by simpa using he)
        · cases h with
          | zero => omega
          | succ h =>
            cases j with
            | zero =>
              simp at h1 h2
              subst h1; subst h2
              refine hs1 _ h (hin h3 h4) (by omega) fun k hk he => ?_
              rw [hbs]
              have := hfree (k + 1) (by omega) (by omega) (by simpa using he)
              simpa using this
            | succ j =>
              refine hs2 j h o' io' (by omega) (by omega) (by simpa using h1) (by simpa using h2) h3 h4 fun k hjk hk he => ?_
              rw [hbs]
              have := hfree (k + 1) (by omega) (by omega) (by simpa using he)
              have e : idx + 1 + j = idx + (j + 1) := by omega
              rw [e]; exact this
      have three : ((∀ t b, io.guard = some (t, b) → getF fr t = .p (.bool b)) ∧ opV P true io.op fr ba lo (nextQ P (bs.headD 0) io ios bs.tail idx log fr K X)) ∨ (io.guard = none ∧ isP io.op = true ∧ opVQ P io.op fr ba lo (nextQ P (bs.headD 0) io ios bs.tail idx log fr K X) X) ∨
          (∃ t b, io.guard = some (t, b) ∧ Unw (getF fr t) b ∧ opsQ P ios bs.tail (idx + 1) log (putF fr io.dst (.p (.tup []))) ba lo K X) := by
        rcases opsQ_cons h with ⟨hg, h⟩ | ⟨hg, h⟩ | h
        · cases hp : isP io.op with
          | false => exact .inl ⟨fun t b e => (by rw [hg] at e; cases e), opVQ_plain hp h⟩
          | true => exact .inr (.inl ⟨hg, rfl, h⟩)
        · exact .inl ⟨hg, h⟩
        · exact .inr (.inr h)
      rcases three with ⟨hg, h⟩ | ⟨hg, hp, h⟩ | ⟨t, b, hg, hv, h⟩
      · obtain ⟨v, ba', lo', hk, s1, s2, s3, s4, s5, s6⟩ := step_of c2 h
        obtain ⟨log', k1, k2, k3⟩ := nextQ_out (fun x hx => (hl x hx).2.1) hk
        refine rest (log' := log') (fun x hx hfree => ?_) (fun x hx => ?_) (fun e _ => ?_) ⟨rfl, s1, s2, .inr ⟨hg, s3, s4, s5⟩⟩ k1
        · rcases Nat.lt_or_ge (effect io.op) 2 with he | he
          · exact (k2 he).1 x hx
          · exact (k3 he).2 x hx (by rw [hb0]; exact hfree he)
        · rcases Nat.lt_or_ge (effect io.op) 2 with he | he
          · obtain ⟨g1, g2⟩ := s1 he
            rcases (k2 he).2.1 x hx with hx | ⟨rfl, e1⟩
            · obtain ⟨q1, q2, q3⟩ := hl x hx
              exact ⟨by omega, q2, by rw [g1, g2]; exact q3⟩
            · exact ⟨by simp, e1, by rw [g1, g2]; exact s6 e1⟩
          · obtain ⟨q1, q2⟩ := (k3 he).1 x hx
            exact ⟨by have := (hl x q1).1; omega, (hl x q1).2.1, q2⟩
        · exact (k2 (by omega)).2.2 e
      · have he2 := isP_effect hp
        rcases callQ_out c2 hp h with ⟨v, ba', lo', hk, hs⟩ | hs
        · obtain ⟨log', k1, k2, k3⟩ := nextQ_out (fun x hx => (hl x hx).2.1) hk
          refine rest (log' := log') (fun x hx hfree => (k3 (by omega)).2 x hx (by rw [hb0]; exact hfree (by omega))) (fun x hx => ?_) (fun e _ => by omega) ⟨rfl, fun e => by omega, fun e => by omega, .inr ⟨fun t b e => (by rw [hg] at e; cases e), hs, fun e => by omega, fun e => by omega⟩⟩ k1
          obtain ⟨q1, q2⟩ := (k3 (by omega)).1 x hx
          exact ⟨by have := (hl x q1).1; omega, (hl x q1).2.1, q2⟩
        · exact ⟨fun _ => fr, fun _ => ba, fun _ => lo, fun _ => .p .undef, 0, Nat.zero_le _, rfl, rfl, rfl, fun e => by simp at e, fun _ o' io' q1 q2 => by simp at q1 q2; subst q1; subst q2; exact ⟨hg, hp, hs⟩, fun j o' io' e => by omega, fun x h hx hh _ => by
            have : h = 0 := by omega
            subst this
            exact (hl x hx).2.2, fun j h o' io' e1 e2 => by omega⟩
      · exact rest (log' := log) (fun x hx _ => hx) (fun x hx => by have := hl x hx; exact ⟨by omega, this.2.1, this.2.2⟩) (fun e hg' => by
          exact absurd (hg' t b hg) hv.ne) ⟨rfl, fun _ => ⟨rfl, rfl⟩, fun _ => ⟨rfl, [], by simp⟩, .inl ⟨t, b, hg, hv, rfl, rfl, rfl⟩⟩ h
    · cases hc

theorem qops_sound {own : List Nat} {all : List Oper} {is : List IO_} {id : Nat} {Q : Exit → Act → World → Prop} {K : FR → List Ob → List Ob → Prop} {X : XV} {μ : List MI} {w : World} {a : Act} {fr : FR} {ba lo : List Ob} (hc : compOps P N own all 0 all = some is) (hd : drawOkP all is = true) (hm : P.follows .mixedOrders = true) (h : opsQ P is (befores all) 0 [] fr ba lo K X) (hr : Rel N B T μ w a fr ba lo)
    (hq : ∀ fr' ba' lo' μ' w' a', K fr' ba' lo' → Rel N B T μ' w' a' fr' ba' lo' → Le μ w μ' w' → ba'.length = ba.length → Q .normal a' w')
    (hqx : ∀ ch ba' lo' μ' w' a', X ch ba' lo' → Rel N B T μ' w' a' [] ba' lo' → Le μ w μ' w' → ba'.length = ba.length → Q (.panic ch) a' w') : (Code.region id all.toArray true).wpIn (FW ro) nd P Q a w := by
  simp only [drawOkP, Bool.and_eq_true] at hd
  obtain ⟨⟨hd1, hd2⟩, hd3⟩ := hd
  obtain ⟨F, B', L, V, c0, hcl, e1, e2, e3, hk, hdd, hst, _, hs⟩ := canonQ all is 0 hc (log := []) (fun x hx => by cases hx) h
  refine any_sound hc hd1 hm e1 e2 e3 c0 hcl hk hst (fun _ j h o io hj hh h1 h2 h3 h4 h5 => ?_) (fun hlt => ⟨fun j hj1 hj2 => ?_, fun o io q1 q2 => ?_⟩) hqx hr hq
  · obtain ⟨_, hci⟩ := compOps_get all is 0 hc
    have hio := hci j o io h1 h2
    obtain ⟨_, c2, _, _⟩ := compI_out hio
    exact stepAt_of c2 (hs j h o io hj hh h1 h2 h3 h4 (fun k h6 h7 h8 => by rw [Nat.zero_add]; exact h5 k h6 h7 h8) _ ⟨rfl, rfl, rfl⟩)
  · rw [List.all_eq_true] at hd2
    have h1 := hd2 j (List.mem_range.2 hj2)
    rw [List.all_eq_true] at h1
    have h2 := h1 c0 (List.mem_range.2 hj1)
    have hlen := (compOps_get all is 0 hc).1
    have h3 : is[c0]? = some is[c0] := List.getElem?_eq_getElem (by omega)
    obtain ⟨_, d2, _⟩ := hdd hlt _ _ (List.getElem?_eq_getElem hlt) h3
    have h4 : is.getD c0 default = is[c0] := by rw [List.getD_eq_getElem?_getD, h3]; rfl
    rw [h4, d2] at h2
    simpa using h2
  · obtain ⟨d1, d2, d3⟩ := hdd hlt o io q1 q2
    exact ⟨d1, by have := isP_effect d2; omega, d3⟩

theorem eops_sound {own : List Nat} {all : List Oper} {is : List IO_} {id : Nat} {Q : Exit → Act → World → Prop} {K : FR → List Ob → List Ob → Prop} {μ : List MI} {w : World} {a : Act} {fr : FR} {ba lo : List Ob} (hc : compOps P N own all 0 all = some is) (hd : drawOk true all is = true) (hm : P.follows .mixedOrders = true) (h : opsE P is (befores all) 0 [] fr ba lo K) (hr : Rel N B T μ w a fr ba lo)
    (hq : ∀ fr' ba' lo' μ' w' a', K fr' ba' lo' → Rel N B T μ' w' a' fr' ba' lo' → Le μ w μ' w' → ba'.length = ba.length → Q .normal a' w') : (Code.region id all.toArray true).wpIn (FW ro) nd P Q a w := by
  obtain ⟨F, B', L, V, e1, e2, e3, hk, hst, _, hs⟩ := canonE all is 0 hc (log := []) (fun x hx => by cases hx) h
  refine any_sound (X := fun _ _ _ => False) hc hd hm e1 e2 e3 all.length (Nat.le_refl _) (fun _ => hk) (fun j o io _ => hst j o io) (fun _ j h o io hj hh h1 h2 h3 h4 h5 => ?_) (fun e => absurd e (Nat.lt_irrefl _)) (fun _ _ _ _ _ _ e => e.elim) hr hq
  obtain ⟨_, hci⟩ := compOps_get all is 0 hc
  have hio := hci j o io h1 h2
  obtain ⟨_, c2, _, _⟩ := compI_out hio
  exact stepAt_of c2 (hs j h o io hj hh h1 h2 h3 h4 (fun k h6 h7 h8 => by rw [Nat.zero_add]; exact h5 k h6 h7 h8) _ ⟨rfl, rfl, rfl⟩)

end
end Go.Proofs.YtgdimfogijfmiaaDoor.AD
