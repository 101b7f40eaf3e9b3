/- Chapter 20: an expression's type is that of the one with simple parts: the law TypesSimple of the code. -/
import Derived.Test.YtaanmljlbhkonaaT12
import Derived.Test.YtaanmljlbhkonaaA21
namespace Go.Proofs.Ytaanmljlbhkonaa.AD
open Go.Proofs
set_option linter.unusedVariables false
set_option linter.unusedSimpArgs false
set_option maxRecDepth 100000

def simT (u : Int) : Ex := if u = 1 then .mk 1 ⟨#[]⟩ [] else if u = 2 then .mk 5 ⟨#[49]⟩ [] else if u = 3 then .mk 7 ⟨#[49, 46, 48]⟩ [] else .mk 26 ⟨#[]⟩ []
def simP (u : Int) : PV := if u = 1 then .agg [.int .u8 1, .str ⟨#[]⟩, .nils] else if u = 2 then .agg [.int .u8 5, .str ⟨#[49]⟩, .nils] else if u = 3 then .agg [.int .u8 7, .str ⟨#[49, 46, 48]⟩, .nils] else .agg [.int .u8 26, .str ⟨#[]⟩, .nils]
theorem simP_shape (u : Int) : ∃ o t, simP u = .agg [.int .u8 o, .str t, .nils] := by
  simp only [simP]
  (repeat' split) <;> exact ⟨_, _, rfl⟩
theorem simP_le (u : Int) : (simP u).le (enc (simT u)) := by
  have h : ∀ o t, PV.le (.agg [.int .u8 o, .str t, .nils]) (enc (.mk o t [])) := fun o t => .agg (.cons _ _ _ _ (.refl _) (.cons _ _ _ _ (.refl _) (.cons _ _ _ _ (.nils 3) .nil)))
  simp only [simP, simT]
  (repeat' split) <;> exact h _ _
theorem simT_may (u : Int) : mayE (simT u) = true := by
  have d : ∀ l : ByteArray, l.data.toList.all (fun c => digitB c.toNat) = true → l.data.toList ≠ [] → digitsB l = true := fun l h1 h2 => by
    have h3 : (l.toList == (⟨#[]⟩ : ByteArray).toList) = false := beq_eq_false_iff_ne.2 fun e => h2 (by have := ba_ext.1 e; exact this)
    rw [digitsB, h1, Bool.true_and, neS, h3]
    rfl
  have h5 : digitsB ⟨#[49]⟩ = true := d _ rfl (by simp)
  have h7 : decB ⟨#[49, 46, 48]⟩ = true := by
    have c : cutAt ⟨#[49, 46, 48]⟩ 46 = (⟨#[49]⟩, ⟨#[48]⟩, true) := by rfl
    rw [decB, c, h5, d ⟨#[48]⟩ rfl (by simp)]
    rfl
  simp only [simT]
  (repeat' split)
  · rfl
  · simp [mayE, mayL, textOk, arityI, h5]
  · simp [mayE, mayL, textOk, arityI, h7]
  · simp [mayE, mayL, textOk, arityI, eqS]
theorem simT_type {u : Int} (h : 1 ≤ u ∧ u ≤ 4) : typeT (simT u) = u := by
  simp only [simT]
  (repeat' split) <;> simp [typeT, typesT, combT, leafT] <;> omega
theorem simT_fits (u : Int) : Fits (simT u) := by
  simp only [simT]
  (repeat' split) <;> exact .mk _ _ _ (by decide) (by decide) (by decide) fun a ha => by cases ha

theorem simple_spec (u : Int) : pureF Try.prog 15 [.p (.int .u8 u)] (.p (simP u)) := by
  refine pureF_of f15_ok fun H => ?_
  rcases (show u = 1 ∨ u = 2 ∨ u = 3 ∨ (u ≠ 1 ∧ u ≠ 2 ∧ u ≠ 3) by omega) with rfl | rfl | rfl | h
  · (conv => whnf)
    refine splitB_t rfl ?_
    (conv => whnf)
    exact ⟨rfl, rfl⟩
  · repeat' ((conv => whnf); first | refine splitB_t rfl ?_ | refine splitB_f rfl ?_)
    exact ⟨rfl, rfl⟩
  · repeat' ((conv => whnf); first | refine splitB_t rfl ?_ | refine splitB_f rfl ?_)
    exact ⟨rfl, rfl⟩
  · obtain ⟨h1, h2, h3⟩ := h
    repeat' ((conv => whnf); first | refine splitB_f (beq_eq_false_iff_ne.2 h1) ?_ | refine splitB_f (beq_eq_false_iff_ne.2 h2) ?_ | refine splitB_f (beq_eq_false_iff_ne.2 h3) ?_)
    exact ⟨by rw [simP, if_neg h1, if_neg h2, if_neg h3], rfl⟩

def simPs (xs : List Ex) : List PV := xs.map fun a => simP (typeT a)
def simTs (xs : List Ex) : List Ex := xs.map fun a => simT (typeT a)
theorem simPs_le (xs : List Ex) : PV.les (simPs xs) (encs (simTs xs)) := by
  rw [encs_map]
  induction xs with
  | nil => exact .nil
  | cons a r ih => exact .cons _ _ _ _ (simP_le _) ih
theorem simPs_take {xs : List Ex} {k : Nat} {a : Ex} (h : xs[k]? = some a) : simPs (xs.take (k + 1)) = simPs (xs.take k) ++ [simP (typeT a)] := by
  rw [simPs, simPs, ← List.take_append_getElem (get_lt h), List.map_append]
  simp [(List.getElem?_eq_some_iff.1 h).2]
theorem simPs_len (xs : List Ex) : (simPs xs).length = xs.length := by simp [simPs]
theorem simPs_cut (xs : List Ex) (k : Nat) : (simPs (xs.take k)).take k = simPs (xs.take k) := by
  apply List.take_of_length_le
  rw [simPs_len, List.length_take]
  omega

theorem comb_zero {o : Int} {t : ByteArray} {xs : List Ex} (h : Shaped (.mk o t xs)) {a : Ex} (ha : a ∈ xs) (h0 : typeT a = 0) : typeT (.mk o t xs) = 0 := by
  rcases h.args with ⟨_, rfl⟩ | ⟨_, b, rfl, _⟩ | ⟨_, b, c, rfl, _, _⟩
  · cases ha
  · obtain rfl : a = b := by simpa using ha
    simp [typeT, typesT, combT, h0, oneT]
  · have ha : a = b ∨ a = c := by simpa using ha
    simp only [typeT, typesT, combT, twoT]
    rcases ha with rfl | rfl
    · rw [h0]; (repeat' split) <;> simp_all
    · rw [h0]; (repeat' split) <;> simp_all

theorem types_sim (xs : List Ex) (h : ∀ a, a ∈ xs → 1 ≤ typeT a ∧ typeT a ≤ 4) : typesT (simTs xs) = typesT xs := by
  induction xs with
  | nil => rfl
  | cons a r ih =>
    simp only [simTs, List.map_cons, typesT] at ih ⊢
    rw [simT_type (h a (by simp)), ih fun b hb => h b (by simp [hb])]
theorem sim_of {o : Int} {t : ByteArray} {xs : List Ex} (hm : mayE (.mk o t xs) = true) (h : ∀ a, a ∈ xs → 1 ≤ typeT a ∧ typeT a ≤ 4) : ofT (.mk o t (simTs xs)) = ofT (.mk o t xs) := by
  have h1 : mayL (simTs xs) = true := by rw [mayL_all, simTs, List.all_map]; simp [simT_may]
  have h2 : mayE (.mk o t (simTs xs)) = true := by
    simp only [mayE, Bool.and_eq_true] at hm ⊢
    refine ⟨by simpa [simTs] using hm.1, hm.2.1, h1⟩
  have h3 : typeT (.mk o t (simTs xs)) = typeT (.mk o t xs) := by simp only [typeT, types_sim xs h]
  rw [ofT, if_pos h2, ofT, if_pos hm, h3]
theorem sim_fits {o : Int} {t : ByteArray} {xs : List Ex} (h : Fits (.mk o t xs)) : Fits (.mk o t (simTs xs)) := by
  cases h with
  | mk _ _ _ h1 h2 h3 h4 =>
    refine .mk _ _ _ h1 h2 (by simpa [simTs] using h3) fun a ha => ?_
    obtain ⟨b, _, rfl⟩ := List.mem_map.1 ha
    exact simT_fits _

theorem TypesSimple_spec (e : Ex) (hf : Fits e) : pureF Try.prog 4 [.p (enc e)] (.p (.bool true)) := by
  refine pureF_of f4_ok fun H => ?_
  have hs := Size_spec e 20000 (by omega) (by omega)
  have ho := Of_spec e hf
  have hw := works_spec
  have hc := Check_spec [.mk 1 e (.mk 0 ⟨#[]⟩ []) []] (by simp) fun c hc => by
    rw [List.mem_singleton] at hc
    subst hc
    exact .mk _ _ _ _ (by decide) hf (.mk _ _ _ (by decide) (by decide) (by decide) fun a ha => by cases ha) (by decide) fun a ha => by cases ha
  have hz : checkL [.mk 1 e (.mk 0 ⟨#[]⟩ []) []] = mayE e := by
    simp [checkL, checkC, zeroE, eqS]
  rw [hz] at hc
  cases hm : mayE e with
  | false =>
    rw [ofT, hm] at ho
    rw [hm] at hc
    obtain ⟨o, t, xs⟩ := e
    have hle : PV.le (.list 8 [.agg [.int .u8 1, .int .u8 o, .str t, .list 3 (encs xs), .int .u8 0, .str ⟨#[]⟩, .nils, .nils]]) (.list 8 (encCs [.mk 1 (.mk o t xs) (.mk 0 ⟨#[]⟩ []) []])) :=
      .list (.cons _ _ _ _ (.agg (.cons _ _ _ _ (.refl _) (.cons _ _ _ _ (.refl _) (.cons _ _ _ _ (.refl _) (.cons _ _ _ _ (.refl _) (.cons _ _ _ _ (.refl _) (.cons _ _ _ _ (.refl _) (.cons _ _ _ _ (.nils 3) (.cons _ _ _ _ (.nils 8) .nil))))))))) .nil)
    (conv => whnf)
    refine CallVC.pureF hs rfl ?_
    (conv => whnf)
    refine splitB_dec (fun h => ?_) (fun h => ?_)
    · (conv => whnf)
      refine CallVC.pureF hw rfl ?_
      exact ⟨rfl, rfl⟩
    · (conv => whnf)
      refine CallVC.pureF ho rfl ?_
      (conv => whnf)
      refine splitB_t rfl ?_
      (conv => whnf)
      refine splitB_t rfl ?_
      (conv => whnf)
      refine CallVC.pureF (hc.args (.p _ _ _ _ hle .nil)) rfl ?_
      (conv => whnf)
      refine splitB_t rfl ?_
      (conv => whnf)
      refine CallVC.pureF hw rfl ?_
      exact ⟨rfl, rfl⟩
  | true =>
    have hsh := shaped_of e hm
    have hr := typeT_range e hsh
    obtain ⟨o, t, xs⟩ := e
    have he := encs_len xs
    have hfa : ∀ a, a ∈ xs → Fits a := by cases hf with | mk _ _ _ _ _ _ h => exact h
    have hma : ∀ a, a ∈ xs → mayE a = true := by
      simp only [mayE, Bool.and_eq_true] at hm
      have := hm.2.2
      rw [mayL_all, List.all_eq_true] at this
      exact this
    have hsa : ∀ a, a ∈ xs → Shaped a := by cases hsh with | mk _ _ _ _ h => exact h
    have hx2 : xs.length ≤ 2 := by
      rcases hsh.args with ⟨_, rfl⟩ | ⟨_, b, rfl, _⟩ | ⟨_, b, c, rfl, _, _⟩ <;> simp
    obtain ⟨ty, er, hty, h200, h0⟩ : ∃ ty er : Int, ofT (.mk o t xs) = .tup [.int .u8 ty, .int .i64 er] ∧ ((∃ a, a ∈ xs ∧ typeT a = 0) → er = 200 ∧ ty = 0) ∧ ((er = 0 ∧ 1 ≤ ty ∧ ty ≤ 4) ∨ (er = 200 ∧ ty = 0)) := by
      by_cases h : typeT (.mk o t xs) = 0
      · exact ⟨0, 200, by rw [ofT, if_pos hm, if_pos h], fun _ => ⟨rfl, rfl⟩, .inr ⟨rfl, rfl⟩⟩
      · exact ⟨_, _, by rw [ofT, if_pos hm, if_neg h], fun ⟨a, ha, ha0⟩ => absurd (comb_zero hsh ha ha0) h, .inl ⟨rfl, by omega, by omega⟩⟩
    rw [hty] at ho
    have hle : ∀ l, PV.les l (encs (simTs xs)) → PV.le (.agg [.int .u8 o, .str t, .list 3 l]) (enc (.mk o t (simTs xs))) := fun l hl =>
      .agg (.cons _ _ _ _ (.refl _) (.cons _ _ _ _ (.refl _) (.cons _ _ _ _ (.list hl) .nil)))
    (conv => whnf)
    refine CallVC.pureF hs rfl ?_
    (conv => whnf)
    refine splitB_dec (fun h => ?_) (fun h => ?_)
    · (conv => whnf)
      refine CallVC.pureF hw rfl ?_
      exact ⟨rfl, rfl⟩
    · (conv => whnf)
      refine CallVC.pureF ho rfl ?_
      (conv => whnf)
      refine splitB_f (beq_eq_false_iff_ne.2 (by omega)) ?_
      (conv => whnf)
      intro R hR
      have key : ∀ (rest : List Ex) (k : Nat), xs.drop (k + 1) = rest → k < xs.length → (∀ a, a ∈ xs.take (k + 1) → 1 ≤ typeT a ∧ typeT a ≤ 4) → R [(1, .ref (.l 0) 0), (3, .p (.int .u8 ty)), (4, .p (.int .i64 er)), (5, .ref (.l 1) 0), (6, .p (.int .i64 (k + 1 : Nat)))] H
          [.cells [.p (.int .u8 o), .p (.str t), .p (.list 3 (encs xs))], .cells [.p (.int .u8 o), .p (.str t), .view (.l 2) k 3 (k + 1)], .buf k 3 (simPs (xs.take (k + 1)))] := by
        intro rest
        induction rest with
        | nil =>
          intro k hd hk hall
          have hl := drop_nil hd
          have hk1 : k + 1 = xs.length := by omega
          rw [hk1, List.take_length] at hall
          have hso := (Of_spec (.mk o t (simTs xs)) (sim_fits hf))
          rw [sim_of hm hall, hty] at hso
          refine hR _ _ _ ?_
          (conv => whnf)
          refine splitB_f (decide_eq_false (by omega)) ?_
          (conv => whnf)
          have hsp := hso.args (.p _ _ _ _ (hle (simPs xs) (simPs_le xs)) .nil)
          refine CallVC.lend (ps := [.agg [.int .u8 o, .str t, .list 3 ((simPs (xs.take (k + 1))).take (k + 1))]]) (r := .tup [.int .u8 ty, .int .i64 er]) (by rw [simPs_cut, hk1, List.take_length]; exact hsp) (.tup _ (by simp [Flat.int])) (.cons _ _ _ _ (.agg _ _ rfl ?_) .nil) ?_
          · intro j c p hc hp
            match j, hc, hp with
            | 0, hc, hp => cases hc; cases hp; exact .p _
            | 1, hc, hp => cases hc; cases hp; exact .p _
            | 2, hc, hp => cases hc; cases hp; exact .view _ _ _ _ _ rfl (by rw [simPs_len, List.length_take]; omega)
          rcases h0 with ⟨e1, e2, e3⟩ | ⟨e1, e2⟩
          all_goals subst e1
          all_goals (try subst e2)
          all_goals repeat' ((conv => whnf); first | refine CallVC.pureF hw rfl ?_ | refine splitB_t (beq_self_eq_true _) ?_ | refine splitB_t (decide_eq_true (by omega)) ?_ | refine splitB_t (by rw [decide_eq_true e3]; rfl) ?_ | refine splitB_t rfl ?_ | refine splitB_f rfl ?_)
          all_goals exact ⟨rfl, rfl⟩
        | cons a r ihr =>
          intro k hd hk hall
          obtain ⟨hg, hd', hi⟩ := drop_cons hd
          have hmem := List.mem_of_getElem? hg
          have hao := Of_spec a (hfa a hmem)
          have har := typeT_range a (hsa a hmem)
          rw [ofT, if_pos (hma a hmem)] at hao
          refine hR _ _ _ ?_
          (conv => whnf)
          refine splitB_t (decide_eq_true (by omega)) ?_
          (conv => whnf)
          by_cases hz : typeT a = 0
          · rw [if_pos hz] at hao
            obtain ⟨e1, e2⟩ := h200 ⟨a, hmem, hz⟩
            subst e1; subst e2
            obtain ⟨o', t', xs'⟩ := a
            refine ⟨rfl, enc (.mk o' t' xs'), ⟨by omega, encs_get hg⟩, ?_⟩
            (conv => whnf)
            refine CallVC.pureF hao rfl ?_
            repeat' ((conv => whnf); first | refine CallVC.pureF hw rfl ?_ | refine splitB_t rfl ?_ | refine splitB_f rfl ?_)
            exact ⟨rfl, rfl⟩
          · rw [if_neg hz] at hao
            obtain ⟨o', t', xs'⟩ := a
            refine ⟨rfl, enc (.mk o' t' xs'), ⟨by omega, encs_get hg⟩, ?_⟩
            (conv => whnf)
            refine CallVC.pureF hao rfl ?_
            (conv => whnf)
            refine splitB_f rfl ?_
            (conv => whnf)
            have hsc := simple_spec (typeT (.mk o' t' xs'))
            obtain ⟨so, st, hsh2⟩ := simP_shape (typeT (.mk o' t' xs'))
            rw [hsh2] at hsc
            refine CallD.pureF hsc rfl ?_
            (conv => whnf)
            refine ⟨rfl, ?_⟩
            (conv => whnf)
            refine ⟨⟨rfl, rfl, rfl, by rw [simPs_len, List.length_take]; omega⟩, by simp [room]; omega, simPs (xs.take (k + 1 + 1)), by rw [simPs_cut, simPs_take hg, hsh2], ?_⟩
            (conv => whnf)
            rw [IntWalk.i64_in _ (by omega)]
            exact ihr (k + 1) hd' hi fun c hc => by
              rw [← List.take_append_getElem hi, List.mem_append] at hc
              rcases hc with hc | hc
              · exact hall c hc
              · have : c = .mk o' t' xs' := by simpa [(List.getElem?_eq_some_iff.1 hg).2] using hc
                subst this
                omega
      cases xs with
      | nil =>
        refine hR _ _ _ ?_
        (conv => whnf)
        refine splitB_f rfl ?_
        (conv => whnf)
        have hso := (Of_spec (.mk o t []) hf)
        rw [hty] at hso
        have hnl : PV.le (.agg [.int .u8 o, .str t, .nils]) (enc (.mk o t [])) := .agg (.cons _ _ _ _ (.refl _) (.cons _ _ _ _ (.refl _) (.cons _ _ _ _ (.nils 3) .nil)))
        refine CallVC.pureF (hso.args (.p _ _ _ _ hnl .nil)) rfl ?_
        rcases h0 with ⟨e1, e2, e3⟩ | ⟨e1, e2⟩
        all_goals subst e1
        all_goals (try subst e2)
        all_goals repeat' ((conv => whnf); first | refine CallVC.pureF hw rfl ?_ | refine splitB_t (beq_self_eq_true _) ?_ | refine splitB_t (decide_eq_true (by omega)) ?_ | refine splitB_t (by rw [decide_eq_true e3]; rfl) ?_ | refine splitB_t rfl ?_ | refine splitB_f rfl ?_)
        all_goals exact ⟨rfl, rfl⟩
      | cons a r =>
        have hao := Of_spec a (hfa a (by simp))
        have har := typeT_range a (hsa a (by simp))
        rw [ofT, if_pos (hma a (by simp))] at hao
        refine hR _ _ _ ?_
        (conv => whnf)
        refine splitB_t (decide_eq_true (by rw [he]; simp)) ?_
        (conv => whnf)
        by_cases hz : typeT a = 0
        · rw [if_pos hz] at hao
          obtain ⟨e1, e2⟩ := h200 ⟨a, by simp, hz⟩
          subst e1; subst e2
          obtain ⟨o', t', xs'⟩ := a
          refine ⟨rfl, enc (.mk o' t' xs'), ⟨by omega, rfl⟩, ?_⟩
          (conv => whnf)
          refine CallVC.pureF hao rfl ?_
          repeat' ((conv => whnf); first | refine CallVC.pureF hw rfl ?_ | refine splitB_t rfl ?_ | refine splitB_f rfl ?_)
          exact ⟨rfl, rfl⟩
        · rw [if_neg hz] at hao
          obtain ⟨o', t', xs'⟩ := a
          refine ⟨rfl, enc (.mk o' t' xs'), ⟨by omega, rfl⟩, ?_⟩
          (conv => whnf)
          refine CallVC.pureF hao rfl ?_
          (conv => whnf)
          refine splitB_f rfl ?_
          (conv => whnf)
          have hsc := simple_spec (typeT (.mk o' t' xs'))
          obtain ⟨so, st, hsh2⟩ := simP_shape (typeT (.mk o' t' xs'))
          rw [hsh2] at hsc
          refine CallD.pureF hsc rfl ?_
          (conv => whnf)
          refine ⟨rfl, ?_⟩
          (conv => whnf)
          refine ⟨by simp [room], ?_⟩
          (conv => whnf)
          have q := key r 0 rfl (by simp) fun c hc => by
            have : c = .mk o' t' xs' := by simpa using hc
            subst this
            omega
          have e3 : simPs (List.take (0 + 1) (.mk o' t' xs' :: r)) = [.agg [.int .u8 so, .str st, .nils]] := by simp [simPs, hsh2]
          rw [e3] at q
          exact q

end Go.Proofs.Ytaanmljlbhkonaa.AD
