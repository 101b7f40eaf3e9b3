/- A plainer machine, fifteen: a call, seen from everybody's side. -/
import Derived.Test.YtkjidklifmcpnaaA14
namespace Go.Proofs.Ytkjidklifmcpnaa.AD
set_option linter.unusedVariables false
set_option linter.unusedSimpArgs false

theorem closes_get (n0 : Nat) (l : List AV) (j : Nat) : (AV.closes n0 l)[j]? = (l[j]?).map (AV.close n0) := by rw [closes_map, List.getElem?_map]
theorem closes_length (n0 : Nat) (l : List AV) : (AV.closes n0 l).length = l.length := by rw [closes_map, List.length_map]

theorem at_close {M : Nat → Prop} {n0 : Nat} {μ : List MI} {r : Rf} {m : MI} (hn : n0 ≤ μ.length) (h : Ctx.at ⟨M, n0, μ⟩ r = some m) : Ctx.at ⟨M, μ.length, μ⟩ (r.close n0) = some m := by
  cases r with
  | l k =>
    have h' : μ[n0 + k]? = some m := h
    simp only [Rf.close, Ctx.at]
    rw [if_pos (get_lt h')]; exact h'
  | b id =>
    simp only [Rf.close, Ctx.at] at h ⊢
    split at h
    · rw [if_pos (get_lt h)]; exact h
    · cases h

theorem VA.closed {M : Nat → Prop} {n0 : Nat} {μ : List MI} {w : World} {v : Value} {a : AV} (hn : n0 ≤ μ.length) (h : VA ⟨M, n0, μ⟩ w v a) : VA ⟨M, μ.length, μ⟩ w v (a.close n0) := by
  generalize hΓ : (⟨M, n0, μ⟩ : Ctx) = Γ at h
  induction h with
  | p v e h => subst hΓ; rw [AV.close]; exact .p v e h
  | ref r off b h => subst hΓ; rw [AV.close]; exact .ref _ off b (at_close hn h)
  | view0 r g sz n h => subst hΓ; rw [AV.close]; exact .view0 _ g sz n (at_close hn h)
  | view r g sz n b len cap h hl hc => subst hΓ; rw [AV.close]; exact .view _ g sz n b len cap (at_close hn h) hl hc
  | viewOld v r g sz len b g' n h hg h0 => subst hΓ; rw [AV.close]; exact .viewOld v _ g sz len b g' n (at_close hn h) hg h0
  | viewGone v r g sz len h h0 => subst hΓ; rw [AV.close]; exact .viewGone v _ g sz len (at_close hn h) h0
  | elt r g sz n b idx off h => subst hΓ; rw [AV.close]; exact .elt _ g sz n b idx off (at_close hn h)
  | eltOld v r g sz idx off b g' n h hg h0 => subst hΓ; rw [AV.close]; exact .eltOld v _ g sz idx off b g' n (at_close hn h) hg h0
  | eltGone v r g sz idx off h h0 => subst hΓ; rw [AV.close]; exact .eltGone v _ g sz idx off (at_close hn h) h0
  | mapr r b h => subst hΓ; rw [AV.close]; exact .mapr _ b (at_close hn h)
  | maprGone v r h h0 => subst hΓ; rw [AV.close]; exact .maprGone v _ (at_close hn h) h0
  | clos f xs ys as bs h1 h2 _ _ ih1 ih2 =>
    rw [AV.close]
    exact .clos f xs ys _ _ (by rw [closes_length]; exact h1) (by rw [closes_length]; exact h2) (fun j x c hx hc => by
      rw [closes_get] at hc
      obtain ⟨c', hc', rfl⟩ := map_some hc
      exact ih1 j x c' hx hc') (fun j x c hx hc => by
      rw [closes_get] at hc
      obtain ⟨c', hc', rfl⟩ := map_some hc
      exact ih2 j x c' hx hc')
  | agg xs cs h1 _ h3 ih =>
    rw [AV.close]
    exact .agg xs _ (by rw [closes_length]; exact h1) (fun j x c hx hc => by
      rw [closes_get] at hc
      obtain ⟨c', hc', rfl⟩ := map_some hc
      exact ih j x c' hx hc') h3
  | tup xs cs h1 _ ih =>
    rw [AV.close]
    exact .tup xs _ (by rw [closes_length]; exact h1) (fun j x c hx hc => by
      rw [closes_get] at hc
      obtain ⟨c', hc', rfl⟩ := map_some hc
      exact ih j x c' hx hc')

theorem at_low {M : Nat → Prop} {n0 : Nat} {μ : List MI} {r : Rf} {m : MI} (h : Ctx.at ⟨M, n0, μ⟩ r = some m) : r.low n0 := by
  cases r with
  | l k => trivial
  | b id =>
    simp only [Ctx.at] at h
    split at h
    · rename_i hl; exact hl
    · cases h

theorem VA.low {M : Nat → Prop} {n0 : Nat} {μ : List MI} {w : World} {v : Value} {a : AV} (h : VA ⟨M, n0, μ⟩ w v a) : a.Low n0 := by
  generalize hΓ : (⟨M, n0, μ⟩ : Ctx) = Γ at h
  have all : ∀ {xs : Array Value} {cs : List AV}, xs.size = cs.length → (∀ (j : Nat) (x : Value) (c : AV), xs[j]? = some x → cs[j]? = some c → c.Low n0) → ∀ a, a ∈ cs → a.Low n0 := fun {xs cs} hl h a ha => by
    obtain ⟨j, hj⟩ := List.mem_iff_getElem?.1 ha
    have : j < xs.size := by rw [hl]; exact get_lt hj
    exact h j _ a (Array.getElem?_eq_getElem this) hj
  induction h with
  | p v e h => exact .p e
  | ref r off b h => subst hΓ; exact .ref r off (at_low h)
  | view0 r g sz n h => subst hΓ; exact .view r g sz 0 (at_low h)
  | view r g sz n b len cap h hl hc => subst hΓ; exact .view r g sz len (at_low h)
  | viewOld v r g sz len b g' n h hg h0 => subst hΓ; exact .view r g sz len (at_low h)
  | viewGone v r g sz len h h0 => subst hΓ; exact .view r g sz len (at_low h)
  | elt r g sz n b idx off h => subst hΓ; exact .elt r g sz idx off (at_low h)
  | eltOld v r g sz idx off b g' n h hg h0 => subst hΓ; exact .elt r g sz idx off (at_low h)
  | eltGone v r g sz idx off h h0 => subst hΓ; exact .elt r g sz idx off (at_low h)
  | mapr r b h => subst hΓ; exact .mapr r (at_low h)
  | maprGone v r h h0 => subst hΓ; exact .mapr r (at_low h)
  | clos f xs ys as bs h1 h2 _ _ ih1 ih2 => exact .clos f as bs (all h1 ih1) (all h2 ih2)
  | agg xs cs h1 _ h3 ih => exact .agg cs (all h1 ih)
  | tup xs cs h1 _ ih => exact .tup cs (all h1 ih)

theorem lowsL_all {n : Nat} : ∀ {l : List AV}, (∀ a, a ∈ l → a.lowL n = true) → AV.lowsL n l = true
  | [], _ => rfl
  | a :: r, h => by
    simp only [AV.lowsL, Bool.and_eq_true]
    exact ⟨h a (by simp), lowsL_all fun b hb => h b (by simp [hb])⟩
theorem lowsL_mem {n : Nat} : ∀ {l : List AV}, AV.lowsL n l = true → ∀ a, a ∈ l → a.lowL n = true
  | [], _, a, ha => by cases ha
  | b :: r, h, a, ha => by
    simp only [AV.lowsL, Bool.and_eq_true] at h
    cases ha with
    | head => exact h.1
    | tail _ ha => exact lowsL_mem h.2 a ha

theorem at_take_low {M : Nat → Prop} {n0 : Nat} {μ : List MI} {r : Rf} {m : MI} (h : Ctx.at ⟨M, n0, μ.take n0⟩ r = some m) : r.lowL 0 = true := by
  cases r with
  | l k =>
    have h' : (μ.take n0)[n0 + k]? = some m := h
    rw [List.getElem?_take, if_neg (by omega)] at h'
    cases h'
  | b id => rfl

theorem VA.take_low {M : Nat → Prop} {n0 : Nat} {μ : List MI} {w : World} {v : Value} {a : AV} (h : VA ⟨M, n0, μ.take n0⟩ w v a) : a.lowL 0 = true := by
  generalize hΓ : (⟨M, n0, μ.take n0⟩ : Ctx) = Γ at h
  have all : ∀ {xs : Array Value} {cs : List AV}, xs.size = cs.length → (∀ (j : Nat) (x : Value) (c : AV), xs[j]? = some x → cs[j]? = some c → c.lowL 0 = true) → AV.lowsL 0 cs = true := fun {xs cs} hl h => lowsL_all fun a ha => by
    obtain ⟨j, hj⟩ := List.mem_iff_getElem?.1 ha
    have : j < xs.size := by rw [hl]; exact get_lt hj
    exact h j _ a (Array.getElem?_eq_getElem this) hj
  induction h with
  | p v e h => rfl
  | ref r off b h => subst hΓ; simp only [AV.lowL]; exact at_take_low h
  | view0 r g sz n h => subst hΓ; simp only [AV.lowL]; exact at_take_low h
  | view r g sz n b len cap h hl hc => subst hΓ; simp only [AV.lowL]; exact at_take_low h
  | viewOld v r g sz len b g' n h hg h0 => subst hΓ; simp only [AV.lowL]; exact at_take_low h
  | viewGone v r g sz len h h0 => subst hΓ; simp only [AV.lowL]; exact at_take_low h
  | elt r g sz n b idx off h => subst hΓ; simp only [AV.lowL]; exact at_take_low h
  | eltOld v r g sz idx off b g' n h hg h0 => subst hΓ; simp only [AV.lowL]; exact at_take_low h
  | eltGone v r g sz idx off h h0 => subst hΓ; simp only [AV.lowL]; exact at_take_low h
  | mapr r b h => subst hΓ; simp only [AV.lowL]; exact at_take_low h
  | maprGone v r h h0 => subst hΓ; simp only [AV.lowL]; exact at_take_low h
  | clos f xs ys as bs h1 h2 _ _ ih1 ih2 => simp only [AV.lowL, Bool.and_eq_true]; exact ⟨all h1 ih1, all h2 ih2⟩
  | agg xs cs h1 _ h3 ih => simp only [AV.lowL]; exact all h1 ih
  | tup xs cs h1 _ ih => simp only [AV.lowL]; exact all h1 ih

theorem rf_close_id {n0 : Nat} {r : Rf} (h : r.lowL 0 = true) : r.close n0 = r := by
  cases r with
  | l k => simp [Rf.lowL, Nat.blt] at h
  | b id => rfl

/-- From everybody's side back to its own. -/
theorem at_open {M : Nat → Prop} {n0 : Nat} {μ : List MI} {r : Rf} {m : MI} (hl : r.low n0) (h : Ctx.at ⟨M, μ.length, μ⟩ (r.close n0) = some m) : Ctx.at ⟨M, n0, μ⟩ r = some m := by
  cases r with
  | l k =>
    simp only [Rf.close, Ctx.at] at h ⊢
    split at h
    · exact h
    · cases h
  | b id =>
    simp only [Rf.close, Ctx.at] at h ⊢
    have hl' : id < n0 := hl
    rw [if_pos hl']
    split at h
    · exact h
    · cases h

theorem VA.opened {M : Nat → Prop} {n0 : Nat} {μ : List MI} {w : World} {a : AV} (hl : a.Low n0) : ∀ {v : Value}, VA ⟨M, μ.length, μ⟩ w v (a.close n0) → VA ⟨M, n0, μ⟩ w v a := by
  induction hl with
  | p e => intro v h; rw [AV.close] at h; cases h with | p _ _ h => exact .p v e h
  | ref r o hr => intro v h; rw [AV.close] at h; cases h with | ref _ _ b h => exact .ref r o b (at_open hr h)
  | view r g sz len hr =>
    intro v h; rw [AV.close] at h
    cases h with
    | view0 _ _ _ n h => exact .view0 r g sz n (at_open hr h)
    | view _ _ _ n b _ cap h h1 h2 => exact .view r g sz n b len cap (at_open hr h) h1 h2
    | viewOld _ _ _ _ _ b g' n h h1 h2 => exact .viewOld v r g sz len b g' n (at_open hr h) h1 h2
    | viewGone _ _ _ _ _ h h2 => exact .viewGone v r g sz len (at_open hr h) h2
  | elt r g sz i o hr =>
    intro v h; rw [AV.close] at h
    cases h with
    | elt _ _ _ n b _ _ h => exact .elt r g sz n b i o (at_open hr h)
    | eltOld _ _ _ _ _ _ b g' n h h1 h2 => exact .eltOld v r g sz i o b g' n (at_open hr h) h1 h2
    | eltGone _ _ _ _ _ _ h h2 => exact .eltGone v r g sz i o (at_open hr h) h2
  | mapr r hr =>
    intro v h; rw [AV.close] at h
    cases h with
    | mapr _ b h => exact .mapr r b (at_open hr h)
    | maprGone _ _ h h2 => exact .maprGone v r (at_open hr h) h2
  | clos f as bs _ _ ih1 ih2 =>
    intro v h; rw [AV.close] at h
    cases h with
    | clos _ xs ys _ _ h1 h2 h3 h4 =>
      rw [closes_length] at h1 h2
      exact .clos f xs ys as bs h1 h2 (fun j x c hx hc => ih1 c (List.mem_of_getElem? hc) (h3 j x _ hx (by rw [closes_get, hc]; rfl))) (fun j x c hx hc => ih2 c (List.mem_of_getElem? hc) (h4 j x _ hx (by rw [closes_get, hc]; rfl)))
  | agg cs _ ih =>
    intro v h; rw [AV.close] at h
    cases h with
    | agg xs _ h1 h2 h3 =>
      rw [closes_length] at h1
      exact .agg xs cs h1 (fun j x c hx hc => ih c (List.mem_of_getElem? hc) (h2 j x _ hx (by rw [closes_get, hc]; rfl))) h3
  | tup cs _ ih =>
    intro v h; rw [AV.close] at h
    cases h with
    | tup xs _ h1 h2 =>
      rw [closes_length] at h1
      exact .tup xs cs h1 (fun j x c hx hc => ih c (List.mem_of_getElem? hc) (h2 j x _ hx (by rw [closes_get, hc]; rfl)))

theorem close_id {n0 : Nat} {a : AV} (hl : a.Low n0) : a.lowL 0 = true → a.close n0 = a := by
  have all : ∀ {l : List AV}, (∀ a, a ∈ l → a.lowL 0 = true → a.close n0 = a) → AV.lowsL 0 l = true → AV.closes n0 l = l := fun {l} h hl => by
    rw [closes_map]
    conv => rhs; rw [← List.map_id l]
    exact List.map_congr_left fun a ha => h a ha (lowsL_mem hl a ha)
  induction hl with
  | p e => intro _; rw [AV.close]
  | ref r o hr => intro h; simp only [AV.lowL] at h; rw [AV.close, rf_close_id h]
  | view r g sz len hr => intro h; simp only [AV.lowL] at h; rw [AV.close, rf_close_id h]
  | elt r g sz i o hr => intro h; simp only [AV.lowL] at h; rw [AV.close, rf_close_id h]
  | mapr r hr => intro h; simp only [AV.lowL] at h; rw [AV.close, rf_close_id h]
  | clos f as bs _ _ ih1 ih2 => intro h; simp only [AV.lowL, Bool.and_eq_true] at h; rw [AV.close, all ih1 h.1, all ih2 h.2]
  | agg cs _ ih => intro h; simp only [AV.lowL] at h; rw [AV.close, all ih h]
  | tup cs _ ih => intro h; simp only [AV.lowL] at h; rw [AV.close, all ih h]

theorem at_to_take {M : Nat → Prop} {n0 : Nat} {μ : List MI} {r : Rf} {m : MI} (hl : r.lowL 0 = true) (h : Ctx.at ⟨M, n0, μ⟩ r = some m) : Ctx.at ⟨M, n0, μ.take n0⟩ r = some m := by
  cases r with
  | l k => simp [Rf.lowL, Nat.blt] at hl
  | b id =>
    simp only [Ctx.at] at h ⊢
    split at h
    · rename_i hlt; rw [if_pos hlt, List.getElem?_take, if_pos hlt]; exact h
    · cases h

theorem VA.to_take {M : Nat → Prop} {n0 : Nat} {μ : List MI} {w : World} {v : Value} {a : AV} (h : VA ⟨M, n0, μ⟩ w v a) : a.lowL 0 = true → VA ⟨M, n0, μ.take n0⟩ w v a := by
  generalize hΓ : (⟨M, n0, μ⟩ : Ctx) = Γ at h
  induction h with
  | p v e h => subst hΓ; intro _; exact .p v e h
  | ref r off b h => subst hΓ; intro hl; simp only [AV.lowL] at hl; exact .ref r off b (at_to_take hl h)
  | view0 r g sz n h => subst hΓ; intro hl; simp only [AV.lowL] at hl; exact .view0 r g sz n (at_to_take hl h)
  | view r g sz n b len cap h h1 h2 => subst hΓ; intro hl; simp only [AV.lowL] at hl; exact .view r g sz n b len cap (at_to_take hl h) h1 h2
  | viewOld v r g sz len b g' n h hg h0 => subst hΓ; intro hl; simp only [AV.lowL] at hl; exact .viewOld v r g sz len b g' n (at_to_take hl h) hg h0
  | viewGone v r g sz len h h0 => subst hΓ; intro hl; simp only [AV.lowL] at hl; exact .viewGone v r g sz len (at_to_take hl h) h0
  | elt r g sz n b idx off h => subst hΓ; intro hl; simp only [AV.lowL] at hl; exact .elt r g sz n b idx off (at_to_take hl h)
  | eltOld v r g sz idx off b g' n h hg h0 => subst hΓ; intro hl; simp only [AV.lowL] at hl; exact .eltOld v r g sz idx off b g' n (at_to_take hl h) hg h0
  | eltGone v r g sz idx off h h0 => subst hΓ; intro hl; simp only [AV.lowL] at hl; exact .eltGone v r g sz idx off (at_to_take hl h) h0
  | mapr r b h => subst hΓ; intro hl; simp only [AV.lowL] at hl; exact .mapr r b (at_to_take hl h)
  | maprGone v r h h0 => subst hΓ; intro hl; simp only [AV.lowL] at hl; exact .maprGone v r (at_to_take hl h) h0
  | clos f xs ys as bs h1 h2 _ _ ih1 ih2 =>
    intro hl; simp only [AV.lowL, Bool.and_eq_true] at hl
    exact .clos f xs ys as bs h1 h2 (fun j x c hx hc => ih1 j x c hx hc (lowsL_mem hl.1 c (List.mem_of_getElem? hc))) (fun j x c hx hc => ih2 j x c hx hc (lowsL_mem hl.2 c (List.mem_of_getElem? hc)))
  | agg xs cs h1 _ h3 ih => intro hl; simp only [AV.lowL] at hl; exact .agg xs cs h1 (fun j x c hx hc => ih j x c hx hc (lowsL_mem hl c (List.mem_of_getElem? hc))) h3
  | tup xs cs h1 _ ih => intro hl; simp only [AV.lowL] at hl; exact .tup xs cs h1 (fun j x c hx hc => ih j x c hx hc (lowsL_mem hl c (List.mem_of_getElem? hc)))

/-- What holds of the elder ones holds on everybody's side. -/
theorem VA.widen {M : Nat → Prop} {n0 : Nat} {μ : List MI} {w : World} {v : Value} {a : AV} (hn : n0 ≤ μ.length) (h : VA ⟨M, n0, μ.take n0⟩ w v a) : VA ⟨M, μ.length, μ⟩ w v a := by
  have h1 := h.of_take.closed hn
  rwa [close_id h.low h.take_low] at h1

variable {ba lo : List Ob}

theorem flat_length (ba lo : List Ob) : (flat ba lo).length = ba.length + lo.length := by simp [flat]

theorem Inv.flat {μ : List MI} {w : World} (h : Inv μ w ba lo) : Inv μ w (flat ba lo) [] := by
  have hl : μ.length = (AD.flat ba lo).length := by rw [flat_length, h.len]
  have hn : ba.length ≤ μ.length := by rw [h.len]; omega
  refine ⟨by rw [hl]; rfl, h.apart, fun i o ho => ?_, fun k o ho => by simp at ho⟩
  rw [← hl, List.take_length]
  unfold AD.flat at ho
  rcases Nat.lt_or_ge i ba.length with hi | hi
  · rw [List.getElem?_append_left hi] at ho
    obtain ⟨m, h1, h2⟩ := h.bases i o ho
    refine ⟨m, h1, ?_⟩
    cases h2 with
    | cells b xs t cs a1 a2 a3 => exact .cells b xs t cs a1 a2 fun j x c hx hc => ⟨(a3 j x c hx hc).1.widen hn, (a3 j x c hx hc).2⟩
    | loop l r ks cs st p a1 a2 a0 a3 => exact .loop l r ks cs st p a1 a2 a0 fun j t c hj hc => (a3 j t c hj hc).widen hn
    | buf0 g sz n => exact .buf0 g sz n
    | buf b g n sz xs t es c a1 a2 a3 a4 => exact .buf b g n sz xs t es c a1 a2 a3 a4
    | map b clock xs es a1 a2 a3 => exact .map b clock xs es a1 a2 a3
    | gone => exact .gone
  · rw [List.getElem?_append_right hi, List.getElem?_map] at ho
    obtain ⟨o', ho', rfl⟩ := map_some ho
    obtain ⟨m, h1, h2⟩ := h.locs _ o' ho'
    refine ⟨m, by rw [show i = ba.length + (i - ba.length) by omega]; exact h1, ?_⟩
    cases h2 with
    | cells b xs t cs a1 a2 a3 =>
      exact .cells b xs t _ a1 (by rw [closes_length]; exact a2) fun j x c hx hc => by
        rw [closes_get] at hc
        obtain ⟨c', hc', rfl⟩ := map_some hc
        exact ⟨(a3 j x c' hx hc').1.closed hn, (a3 j x c' hx hc').2⟩
    | loop l r ks cs st p a1 a2 a0 a3 =>
      exact .loop l r ks _ st p a1 a2 (by rw [closes_length]; exact a0) fun j t c hj hc => by
        rw [closes_get] at hc
        obtain ⟨c', hc', rfl⟩ := map_some hc
        exact (a3 j t c' hj hc').closed hn
    | buf0 g sz n => exact .buf0 g sz n
    | buf b g n sz xs t es c a1 a2 a3 a4 => exact .buf b g n sz xs t es c a1 a2 a3 a4
    | map b clock xs es a1 a2 a3 => exact .map b clock xs es a1 a2 a3
    | gone => exact .gone

theorem ob_low {Γ : Ctx} {w : World} {m : MI} {n0 : Nat} {M : Nat → Prop} {μ : List MI} (hΓ : Γ = ⟨M, n0, μ⟩) {o : Ob} (h : ObOk Γ w m o) : o.Low n0 := by
  subst hΓ
  cases h with
  | cells b xs t cs a1 a2 a3 =>
    intro a ha
    obtain ⟨j, hj⟩ := List.mem_iff_getElem?.1 ha
    have : j < xs.size := by rw [a2]; exact get_lt hj
    exact (a3 j _ a (Array.getElem?_eq_getElem this) hj).1.low
  | loop l r ks cs st p a1 a2 a0 a3 =>
    intro a ha
    obtain ⟨j, hj⟩ := List.mem_iff_getElem?.1 ha
    have : j < ks.length := by rw [a0]; exact get_lt hj
    exact (a3 j _ a (List.getElem?_eq_getElem this) hj).low
  | _ => trivial
theorem ob_lowB {w : World} {m : MI} {n0 : Nat} {M : Nat → Prop} {μ : List MI} {o : Ob} (h : ObOk ⟨M, n0, μ.take n0⟩ w m o) : o.LowB n0 := by
  cases h with
  | cells b xs t cs a1 a2 a3 =>
    intro a ha
    obtain ⟨j, hj⟩ := List.mem_iff_getElem?.1 ha
    have : j < xs.size := by rw [a2]; exact get_lt hj
    have := (a3 j _ a (Array.getElem?_eq_getElem this) hj).1
    exact ⟨this.low, this.take_low⟩
  | loop l r ks cs st p a1 a2 a0 a3 =>
    intro a ha
    obtain ⟨j, hj⟩ := List.mem_iff_getElem?.1 ha
    have : j < ks.length := by rw [a0]; exact get_lt hj
    have := a3 j _ a (List.getElem?_eq_getElem this) hj
    exact ⟨this.low, this.take_low⟩
  | _ => trivial

/-- Back from everybody's side. -/
theorem Inv.unflat {μ : List MI} {w : World} {ba' lo' : List Ob} {n0 : Nat} (hb : ba'.length = n0) (h : Inv μ w (ba' ++ lo'.map (Ob.close n0)) []) (h1 : ∀ o, o ∈ ba' → o.LowB n0) (h2 : ∀ o, o ∈ lo' → o.Low n0) : Inv μ w ba' lo' := by
  subst hb
  have hl : μ.length = ba'.length + lo'.length := by have := h.len; simpa using this
  have hlen : (ba' ++ lo'.map (Ob.close ba'.length)).length = μ.length := by rw [hl]; simp
  refine ⟨hl, h.apart, fun i o ho => ?_, fun k o ho => ?_⟩
  · obtain ⟨m, g1, g2⟩ := h.bases i o (by rw [List.getElem?_append_left (get_lt ho)]; exact ho)
    rw [hlen, List.take_length] at g2
    refine ⟨m, g1, ?_⟩
    have hlo := h1 o (List.mem_of_getElem? ho)
    cases g2 with
    | cells b xs t cs a1 a2 a3 =>
      exact .cells b xs t cs a1 a2 fun j x c hx hc => ⟨by
        obtain ⟨l1, l2⟩ := hlo c (List.mem_of_getElem? hc)
        have := (a3 j x c hx hc).1
        rw [← close_id l1 l2] at this
        exact (VA.opened l1 this).to_take l2, (a3 j x c hx hc).2⟩
    | loop l r ks cs st p a1 a2 a0 a3 =>
      exact .loop l r ks cs st p a1 a2 a0 fun j t c hj hc => by
        obtain ⟨l1, l2⟩ := hlo c (List.mem_of_getElem? hc)
        have := a3 j t c hj hc
        rw [← close_id l1 l2] at this
        exact (VA.opened l1 this).to_take l2
    | buf0 g sz n => exact .buf0 g sz n
    | buf b g n sz xs t es c a1 a2 a3 a4 => exact .buf b g n sz xs t es c a1 a2 a3 a4
    | map b clock xs es a1 a2 a3 => exact .map b clock xs es a1 a2 a3
    | gone => exact .gone
  · have hk := get_lt ho
    obtain ⟨m, g1, g2⟩ := h.bases (ba'.length + k) (o.close ba'.length) (by rw [List.getElem?_append_right (by omega), List.getElem?_map, Nat.add_sub_cancel_left, ho]; rfl)
    rw [hlen, List.take_length] at g2
    refine ⟨m, g1, ?_⟩
    have hlo := h2 o (List.mem_of_getElem? ho)
    cases o with
    | cells cs =>
      cases g2 with
      | cells b xs t _ a1 a2 a3 =>
        rw [closes_length] at a2
        exact .cells b xs t cs a1 a2 fun j x c hx hc => by
          have := a3 j x (c.close ba'.length) hx (by rw [closes_get, hc]; rfl)
          exact ⟨VA.opened (hlo c (List.mem_of_getElem? hc)) this.1, this.2⟩
    | buf g sz es =>
      cases g2 with
      | buf0 g sz n => exact .buf0 g sz n
      | buf b g n sz xs t es c a1 a2 a3 a4 => exact .buf b g n sz xs t es c a1 a2 a3 a4
    | map es => cases g2 with | map b clock xs es a1 a2 a3 => exact .map b clock xs es a1 a2 a3
    | loop l r ks cs st =>
      cases g2 with
      | loop _ _ _ _ _ p a1 a2 a0 a3 =>
        rw [closes_length] at a0
        exact .loop l r ks cs st p a1 a2 a0 fun j t c hj hc => VA.opened (hlo c (List.mem_of_getElem? hc)) (a3 j t (c.close ba'.length) hj (by rw [closes_get, hc]; rfl))
    | gone => cases g2 with | gone => exact .gone

/-- A call, back on its own side. -/
theorem call_back0 {P : Program} {f : Nat} {args : List AV} {K : AV → List Ob → List Ob → Prop} (h : CallX P f args ba lo K) {μ : List MI} {w : World} {xs : Array Value} (hi : Inv μ w ba lo) (hx : VAs ⟨blocks μ, ba.length, μ⟩ w xs args) :
    Calls P f xs w fun e w' => ∃ v r μ' ba' lo', e = .returned v ∧ VA ⟨blocks μ', ba.length, μ'⟩ w' v r ∧ Inv μ' w' ba' lo' ∧ Le μ w μ' w' ∧ ba'.length = ba.length ∧ K r ba' lo' := by
  have hn : ba.length ≤ μ.length := by rw [hi.len]; omega
  have hfl : (flat ba lo).length = μ.length := by rw [flat_length, hi.len]
  refine (h.out μ w xs hi.flat ⟨by rw [closes_length]; exact hx.1, fun j x a hj ha => ?_⟩).mono fun e w' hw => ?_
  · rw [closes_get] at ha
    obtain ⟨a', ha', rfl⟩ := map_some ha
    rw [hfl]
    exact (hx.2 j x a' hj ha').closed hn
  · obtain ⟨v, r, H', μ', he, ⟨r', ba', lo', rfl, hr, rfl, hbl, hb1, hl1, hk⟩, hinv, hv, hle⟩ := hw
    have hb2 : ∀ o, o ∈ ba' → o.LowB ba.length := fun o ho => by
      rcases hb1 o ho with h1 | h1
      · obtain ⟨j, hj⟩ := List.mem_iff_getElem?.1 h1
        obtain ⟨m, _, g2⟩ := hi.bases j o hj
        exact ob_lowB g2
      · exact h1
    have hl2 : ∀ o, o ∈ lo' → o.Low ba.length := fun o ho => by
      rcases hl1 o ho with h1 | h1
      · obtain ⟨j, hj⟩ := List.mem_iff_getElem?.1 h1
        obtain ⟨m, _, g2⟩ := hi.locs j o hj
        exact ob_low rfl g2
      · exact h1
    have hinv' := hinv.unflat hbl hb2 hl2
    refine ⟨v, r', μ', ba', lo', he, VA.opened hr ?_, hinv', hle, hbl, hk⟩
    have : (ba' ++ lo'.map (Ob.close ba.length)).length = μ'.length := by rw [hinv'.len]; simp
    rw [this] at hv
    exact hv

theorem CallX.to {P : Program} {f : Nat} {args : List AV} {K : AV → List Ob → List Ob → Prop} (h : CallX P f args ba lo K) : CallVC P f args ba lo K :=
  ⟨fun μ w xs hi hx => call_back0 h hi hx⟩

theorem call_back {P : Program} {f : Nat} {args : List AV} {K : AV → List Ob → List Ob → Prop} (h : CallVC P f args ba lo K) {μ : List MI} {w : World} {xs : Array Value} (hi : Inv μ w ba lo) (hx : VAs ⟨blocks μ, ba.length, μ⟩ w xs args) :
    Calls P f xs w fun e w' => ∃ v r μ' ba' lo', e = .returned v ∧ VA ⟨blocks μ', ba.length, μ'⟩ w' v r ∧ Inv μ' w' ba' lo' ∧ Le μ w μ' w' ∧ ba'.length = ba.length ∧ K r ba' lo' := h.out μ w xs hi hx

theorem CallVC.pure {P : Program} {f : Nat} {args : List AV} {ba lo : List Ob} {K : AV → List Ob → List Ob → Prop} {e : PV} (h : callA P f (AV.closes ba.length args) (flat ba lo) (fun r H' => r = .p e ∧ H' = flat ba lo))
    (k : K (.p e) ba lo) : CallVC P f args ba lo K :=
  CallX.to ⟨h.mono fun r H' ⟨h1, h2⟩ => ⟨.p e, ba, lo, by rw [h1, AV.close], .p e, h2, rfl, fun _ h => .inl h, fun _ h => .inl h, k⟩⟩

end Go.Proofs.Ytkjidklifmcpnaa.AD
