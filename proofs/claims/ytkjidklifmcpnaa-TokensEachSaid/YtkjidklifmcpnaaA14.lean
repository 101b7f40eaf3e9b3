/- A plainer machine, fourteen: every operation but a call does what its reading says. -/
import Derived.Test.YtkjidklifmcpnaaA13E
namespace Go.Proofs.Ytkjidklifmcpnaa.AD
set_option linter.unusedVariables false
set_option linter.unusedSimpArgs false

def isCall : IOp → Bool
  | .call _ _ | .callv _ _ | .callE _ _ => true
  | _ => false

section ops
variable {P : Program} {o : Oper} {fr : FR} {ba lo : List Ob} {K : AV → List Ob → List Ob → Prop} {d : Bool}


theorem list2 {α : Type} {xs : Array α} {a b : α} (h : xs.toList = [a, b]) : xs = #[a, b] := by
  apply Array.ext'; simpa using h
theorem list1 {α : Type} {xs : Array α} {a : α} (h : xs.toList = [a]) : xs = #[a] := by
  apply Array.ext'; simpa using h

theorem call_out {i : IOp} {c : Call} (ho : o.op = .call c) (hc : compCall P c = some i) (hn : isCall i = false) (h : opV P d i fr ba lo K) : Sound1 P o fr ba lo K := by
  obtain ⟨callee, args, ats⟩ := c
  unfold compCall at hc
  split at hc
  · rename_i _ _ _ x y s t e1 e2 e3
    simp only at e1 e2 e3
    have f2 := list2 e2
    have f3 := list2 e3
    subst e1; subst f2; subst f3
    split at hc
    · rename_i e he
      split at hc
      · rename_i ti e' x' y' h1 h2 h3 h4
        split at hc
        · rename_i hz
          cases hc
          obtain ⟨z, hz1, hz2⟩ := map_some hz.1
          exact s_app ho he h1 hz1 hz2 hz.2.2 h2 h3 h4 h
        · cases hc
      · rename_i ti x' y' h1 h2 h3 h4
        split at hc
        · rename_i hz
          cases hc
          obtain ⟨z, hz1, hz2⟩ := map_some hz.1
          exact s_appS ho he h1 hz1 hz2 hz.2.1 hz.2.2 h2 h3 h4 h
        · cases hc
      · cases hc
    · cases hc
  · rename_i _ _ _ x t e1 e2 e3
    simp only at e1 e2 e3
    have f2 := list1 e2
    have f3 := list1 e3
    subst e1; subst f2; subst f3
    split at hc
    · rename_i x' h1 h2
      cases hc
      exact s_lenS (ats := #[]) ho h1 h2 h
    · rename_i e x' h1 h2
      cases hc
      exact s_len ho h1 h2 h
    · cases hc
  · rename_i x y e1 e2
    simp only at e1 e2
    have f2 := list2 e2
    subst e1; subst f2
    split at hc
    · rename_i x' y' h1 h2
      cases hc
      exact s_max2 ho h1 h2 h
    · cases hc
  · rename_i x y e1 e2
    simp only at e1 e2
    have f2 := list2 e2
    subst e1; subst f2
    split at hc
    · rename_i x' y' h1 h2
      cases hc
      exact s_min2 ho h1 h2 h
    · cases hc
  · rename_i f e1
    simp only at e1
    subst e1
    split at hc
    · obtain ⟨a, _, rfl⟩ := map_some hc
      cases hn
    · obtain ⟨rs, hrs, rfl⟩ := map_some hc
      simp only [opV, evsK_eq] at h
      rcases allPK_out _ _ _ h with ⟨ps, h1, e, hx, hk⟩ | h
      · refine .quiet _ hk fun μ w a hi hp => ?_
        obtain ⟨a1, a2⟩ := rvs_sound fr (a := a) (w := w) (Γ := ⟨blocks μ, ba.length, μ⟩) hrs (fun x r hm hxr => hp x r (by rw [ho]; simp [Op.operands, Call.operands]; simp at hm; simp [hm]) hxr)
        have hl : (args.map a.eval).size = ps.length := by
          have := congrArg List.length h1
          simp only [List.length_map] at this
          simp
          rw [← this, ← a1]
          simp
        obtain ⟨c, hr, hv⟩ := hx.out (blocks μ) w (args.map a.eval) hl fun j x p hj hpj => by
          have := a2 j x (.p p) (by simpa using hj) (by rw [h1, List.getElem?_map, hpj]; rfl)
          exact this.pv
        exact ⟨c, by simp [execOp, ho, resolve, Act.eval, Deferred.ofValue, invoke, hr], .p _ _ hv⟩
      · exact h.elim
  · obtain ⟨a, _, rfl⟩ := map_some hc
    cases hn
  · cases hc

theorem op_out0 {own : List Nat} {i : IOp} (hc : compO0 P own o = some i) (hn : isCall i = false) (h : opV P d i fr ba lo K) : Sound1 P o fr ba lo K := by
  unfold compO0 at hc
  split at hc
  · rename_i x ho
    obtain ⟨r, hr, rfl⟩ := map_some hc
    exact s_mv (x := x) (by simp [ho, Op.operands]) (fun a w => by simp [execOp, ho]) hr (by simpa only [opV, evK_eq] using h)
  · rename_i x ho
    obtain ⟨r, hr, rfl⟩ := map_some hc
    exact s_mv (x := x) (by simp [ho, Op.operands]) (fun a w => by simp [execOp, ho]) hr (by simpa only [opV, evK_eq] using h)
  · rename_i c a b ho
    split at hc
    · rename_i c' a' b' h1 h2 h3
      cases hc
      exact s_pick ho h1 h2 h3 h
    · cases hc
  · rename_i e ho
    split at hc
    · rename_i ti h1
      split at hc
      · rename_i z h2
        obtain ⟨cs, h3, rfl⟩ := map_some hc
        exact s_alloc ho h1 h2 h3 h
      · cases hc
    · cases hc
  · rename_i e x ho
    obtain ⟨r, hr, rfl⟩ := map_some hc
    exact s_box ho hr h
  · rename_i t parts ho
    split at hc
    · rename_i ti h1
      split at hc
      · rename_i z fields h2 h3
        split at hc
        · rename_i zs places h4 h5
          obtain ⟨ps, h6, rfl⟩ := map_some hc
          exact s_build ho h1 h2 h4 (.inl ⟨fields, places, h3, h5, h6⟩) h
        · cases hc
      · rename_i z n e h2 h3
        split at hc
        · rename_i zs ie h4 h5
          obtain ⟨ps, h6, rfl⟩ := map_some hc
          exact s_build ho h1 h2 h4 (.inr ⟨n, e, ie, h3, h5, h6⟩) h
        · cases hc
      · cases hc
    · cases hc
  · rename_i t len parts ho
    split at hc
    · rename_i e h1
      split at hc
      · rename_i ti h2
        split at hc
        · rename_i z h3
          split at hc
          · rename_i z' ps h4 h5
            split at hc
            · rename_i hz
              cases hc
              exact s_lit ho h1 h2 h3 h4 h5 hz.1 hz.2.1 hz.2.2 h
            · cases hc
          · cases hc
        · cases hc
      · cases hc
    · cases hc
  · rename_i t a ho
    split at hc
    · rename_i n a' h1 h2
      cases hc
      exact s_load ho h1 h2 h
    · cases hc
  · rename_i t a x ho
    split at hc
    · rename_i n a' x' h1 h2 h3
      cases hc
      exact s_store ho h1 h2 h3 h
    · cases hc
  · rename_i x ho
    obtain ⟨r, hr, rfl⟩ := map_some hc
    exact s_nilck ho hr h
  · rename_i op t x y yt ho
    split at hc
    · rename_i k x' y' h1 h2 h3
      cases hc
      exact s_bin ho h2 h3 h
    · rename_i x' y' h1 h2 h3
      cases hc
      exact s_bin ho h2 h3 h
    · rename_i x' y' h1 h2 h3
      split at hc
      · cases hc
        exact s_eqb ho (by simp) h1 h2 h3 h
      · cases hc
        exact s_eqb ho (by simp) h1 h2 h3 h
      · cases hc
    · rename_i fs x' y' h1 h2 h3
      split at hc
      · rename_i h4
        obtain ⟨h5, h6⟩ := h4
        split at hc
        · rename_i ks h4
          cases hc
          exact s_eqs ho (by simp) h1 h4 h5 h6 h2 h3 h
        · rename_i ks h4
          cases hc
          exact s_eqs ho (by simp) h1 h4 h5 h6 h2 h3 h
        · cases hc
      · cases hc
    · rename_i u1 u2 u3 x' h1 h2 h3
      split at hc
      · cases hc
        exact s_isNil ho (by simp) h1 h2 h3 h
      · cases hc
        exact s_isNil ho (by simp) h1 h2 h3 h
      · cases hc
    · cases hc
  · rename_i t x ho
    obtain ⟨r, hr, rfl⟩ := map_some hc
    exact s_not ho hr h
  · rename_i t x ho
    obtain ⟨r, hr, rfl⟩ := map_some hc
    exact s_neg ho hr h
  · rename_i s t x ho
    split at hc
    · rename_i j k x' h1 h2 h3
      cases hc
      exact s_conv ho h1 h2 h3 h
    · rename_i x' h1 h2 h3
      cases hc
      exact s_mvS ho h1 h2 h3 h
    · rename_i e x' h1 h2 h3
      split at hc
      · rename_i h4
        cases hc
        exact s_toBytes ho h1 h2 h4 h3 h
      · cases hc
    · rename_i e x' h1 h2 h3
      split at hc
      · rename_i h4
        cases hc
        exact s_ofBytes ho h1 h4 h2 h3 h
      · cases hc
    · cases hc
  · rename_i t x l0 h0 m0 ho
    split at hc
    · rename_i x' rl rh h1 h2 h3 h4 h5
      cases hc
      have : m0 = none := by cases m0 with | none => rfl | some m => obtain ⟨r, _, h6⟩ := map_some h5; cases h6
      subst this
      exact s_cutS ho h1 h2 h3 h4 h
    · rename_i e x' rl rh rm h1 h2 h3 h4 h5
      split at hc
      · rename_i n h6
        cases hc
        exact s_cutL ho h1 h6 h2 h3 h4 h5 h
      · cases hc
    · cases hc
  · rename_i s x f ho
    split at hc
    · rename_i fields x' h1 h2
      split at hc
      · rename_i fd h3
        split at hc
        · rename_i n h4
          split at hc
          · cases hc
          · rename_i h5
            cases hc
            exact s_fieldA ho h1 h3 h4 h5 h2 h
        · cases hc
      · cases hc
    · cases hc
  · rename_i t x f ho
    split at hc
    · rename_i fields x' h1 h2
      split at hc
      · rename_i fd h3
        obtain ⟨n, h4, rfl⟩ := map_some hc
        exact s_fld ho h1 h3 h4 h2 h
      · cases hc
    · cases hc
  · rename_i t x i' ho
    split at hc
    · rename_i e x' i2 h1 h2 h3
      obtain ⟨n, h4, rfl⟩ := map_some hc
      exact s_elemA ho h1 h4 h2 h3 h
    · rename_i len e x' i2 h1 h2 h3
      obtain ⟨n, h4, rfl⟩ := map_some hc
      exact s_arrA ho h1 h4 h2 h3 h
    · cases hc
  · rename_i t x i' ho
    split at hc
    · rename_i len e x' i2 h1 h2 h3
      split at hc
      · rename_i sz n h4 h5
        cases hc
        exact s_idxA ho h1 h4 h5 h2 h3 h
      · cases hc
    · rename_i x' i2 h1 h2 h3
      cases hc
      exact s_idxS ho h1 h2 h3 h
    · cases hc
  · rename_i f first cap ho
    split at hc
    · rename_i as bs h1 h2
      cases hc
      exact s_mkfn ho h1 h2 h
    · cases hc
  · rename_i x i' ho
    obtain ⟨r, hr, rfl⟩ := map_some hc
    exact s_ext ho hr h
  · rename_i c ho
    exact call_out ho hc hn h
  · rename_i t ho
    cases hc
    exact s_mkmap ho h
  · rename_i t l c ho
    split at hc
    · rename_i e l' c' h1 h2 h3
      split at hc
      · rename_i ti h4
        split at hc
        · rename_i z h5
          split at hc
          · rename_i h6
            obtain ⟨z', h7, rfl⟩ := map_some hc
            exact s_mk ho h1 h4 h5 h7 h6.1 h6.2.1 h6.2.2 h2 h3 h
          · cases hc
        · cases hc
      · cases hc
    · cases hc
  · rename_i t x i' ok ho
    split at hc
    · rename_i kt et x' i2 h1 h2 h3
      split at hc
      · rename_i kk z h4 h5
        obtain ⟨z', h6, rfl⟩ := map_some hc
        exact s_look ho h1 h4 h5 h6 h2 h3 h
      · cases hc
    · cases hc
  · rename_i t m k x ho
    split at hc
    · rename_i kt et m' k' x' h1 h2 h3 h4
      obtain ⟨kk, h5, rfl⟩ := map_some hc
      exact s_mset ho h1 h5 h2 h3 h4 h
    · cases hc
  · cases hc

theorem op_out {own : List Nat} {i : IOp} (hc : compO P own o = some i) (hn : isCall i = false) (h : opV P d i fr ba lo K) : Sound1 P o fr ba lo K := by
  have hi := Option.some.inj hc
  cases h0 : compO0 P own o with
  | none => rw [h0] at hi; subst hi; exact (show False from h).elim
  | some j =>
    rw [h0] at hi
    simp only [Option.getD_some] at hi
    rcases markE_out own o j with h1 | ⟨f, a, _, h1⟩ | ⟨sz, rfl, h1⟩
    · have hj : j = i := by rw [← h1]; exact hi
      subst hj
      exact op_out0 h0 hn h
    · rw [h1] at hi; rw [← hi] at hn; cases hn
    · rw [h1] at hi
      subst hi
      simp only [opV, pushK_eq] at h
      obtain ⟨v, ba', lo', ⟨rfl, rfl, rfl⟩, hs⟩ := op_out0 (K := fun v b l => v = .p .nils ∧ b = ba ∧ l = lo) h0 rfl (show opV P d (.mv (.v (.p .nils))) fr ba lo _ from ⟨rfl, rfl, rfl⟩)
      refine ⟨_, _, _, h, fun μ w a hi ho => ?_⟩
      obtain ⟨c, w', μ', hrun, g1, g2, g3, g4⟩ := hs μ w a hi ho
      obtain ⟨k1, k2, k3⟩ := g2.push (w' := w') (.buf none 0 0) (.buf 0 sz []) (fun b hb => by cases hb) rfl rfl rfl (Nat.le_refl _) (fun _ _ => rfl) (fun _ => .buf0 _ _ _)
      have hc : c = .slice none 0 0 := by
        have := g1.pv
        cases this; rfl
      have hv : VA ⟨blocks (μ' ++ [.buf none 0 0]), ba'.length, μ' ++ [.buf none 0 0]⟩ w' c (.view (.l lo'.length) 0 sz 0) := by
        rw [hc]
        exact .view0 _ _ _ 0 k3
      rcases hrun with hrun | ⟨hrun, he⟩
      · exact ⟨c, w', _, .inl hrun, hv, k1, g3.trans k2, rfl⟩
      · rw [hc] at he; cases he

end ops
end Go.Proofs.Ytkjidklifmcpnaa.AD
