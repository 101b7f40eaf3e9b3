/- A plainer machine, twenty-three: a call whose own objects stand elsewhere in another order. -/
import Derived.Test.YtkjidklifmcpnaaA22
namespace Go.Proofs.Ytkjidklifmcpnaa.AD
set_option linter.unusedVariables false
section
variable {P : Program}

mutual
def AV.ren (g : Rf → Rf) : AV → AV
  | .p v => .p v
  | .ref r o => .ref (g r) o
  | .view r a sz len => .view (g r) a sz len
  | .elt r a sz i o => .elt (g r) a sz i o
  | .mapr r => .mapr (g r)
  | .clos f as bs => .clos f (AV.rens g as) (AV.rens g bs)
  | .agg cs => .agg (AV.rens g cs)
  | .tup cs => .tup (AV.rens g cs)
def AV.rens (g : Rf → Rf) : List AV → List AV
  | [] => []
  | a :: r => AV.ren g a :: AV.rens g r
end
theorem rens_map (g : Rf → Rf) : ∀ l, AV.rens g l = l.map (AV.ren g)
  | [] => by rw [AV.rens]; rfl
  | a :: r => by rw [AV.rens, rens_map g r]; rfl
theorem rens_get (g : Rf → Rf) (l : List AV) (j : Nat) : (AV.rens g l)[j]? = (l[j]?).map (AV.ren g) := by rw [rens_map, List.getElem?_map]
theorem rens_length (g : Rf → Rf) (l : List AV) : (AV.rens g l).length = l.length := by rw [rens_map, List.length_map]
def Ob.ren (g : Rf → Rf) : Ob → Ob
  | .cells cs => .cells (AV.rens g cs)
  | .loop l r ks cs st => .loop l r ks (AV.rens g cs) st
  | o => o

theorem VP.less {M M' : Nat → Prop} {w : World} (hM : ∀ b, ¬ M b → ¬ M' b) {v : Value} {e : PV} (h : VP M w v e) : VP M' w v e := h.mono ⟨Nat.le_refl _, fun b _ hb => ⟨hM b hb, rfl⟩⟩

theorem VA.ren {Γ Γ' : Ctx} {w : World} {g : Rf → Rf} (hM : ∀ b, ¬ Γ.M b → ¬ Γ'.M b) (hat : ∀ r m, Γ.at r = some m → Γ'.at (g r) = some m) {v : Value} {a : AV} (h : VA Γ w v a) : VA Γ' w v (a.ren g) := by
  induction h with
  | p v e h => rw [AV.ren]; exact .p v e (h.less hM)
  | ref r off b h => rw [AV.ren]; exact .ref _ off b (hat _ _ h)
  | view0 r g' sz n h => rw [AV.ren]; exact .view0 _ g' sz n (hat _ _ h)
  | view r g' sz n b len cap h hl hc => rw [AV.ren]; exact .view _ g' sz n b len cap (hat _ _ h) hl hc
  | viewOld v r g' sz len b g2 n h hg h0 => rw [AV.ren]; exact .viewOld v _ g' sz len b g2 n (hat _ _ h) hg h0
  | viewGone v r g' sz len h h0 => rw [AV.ren]; exact .viewGone v _ g' sz len (hat _ _ h) h0
  | elt r g' sz n b idx off h => rw [AV.ren]; exact .elt _ g' sz n b idx off (hat _ _ h)
  | eltOld v r g' sz idx off b g2 n h hg h0 => rw [AV.ren]; exact .eltOld v _ g' sz idx off b g2 n (hat _ _ h) hg h0
  | eltGone v r g' sz idx off h h0 => rw [AV.ren]; exact .eltGone v _ g' sz idx off (hat _ _ h) h0
  | mapr r b h => rw [AV.ren]; exact .mapr _ b (hat _ _ h)
  | maprGone v r h h0 => rw [AV.ren]; exact .maprGone v _ (hat _ _ h) h0
  | clos f xs ys as bs h1 h2 _ _ ih1 ih2 =>
    rw [AV.ren]
    exact .clos f xs ys _ _ (by rw [rens_length]; exact h1) (by rw [rens_length]; exact h2) (fun j x c hx hc => by
      rw [rens_get] at hc
      obtain ⟨c', hc', rfl⟩ := map_some hc
      exact ih1 j x c' hx hc') (fun j x c hx hc => by
      rw [rens_get] at hc
      obtain ⟨c', hc', rfl⟩ := map_some hc
      exact ih2 j x c' hx hc')
  | agg xs cs h1 _ h3 ih =>
    rw [AV.ren]
    exact .agg xs _ (by rw [rens_length]; exact h1) (fun j x c hx hc => by
      rw [rens_get] at hc
      obtain ⟨c', hc', rfl⟩ := map_some hc
      exact ih j x c' hx hc') h3
  | tup xs cs h1 _ ih =>
    rw [AV.ren]
    exact .tup xs _ (by rw [rens_length]; exact h1) (fun j x c hx hc => by
      rw [rens_get] at hc
      obtain ⟨c', hc', rfl⟩ := map_some hc
      exact ih j x c' hx hc')

theorem ObOk.ren {Γ Γ' : Ctx} {w : World} {g : Rf → Rf} (hM : ∀ b, ¬ Γ.M b → ¬ Γ'.M b) (hat : ∀ r m, Γ.at r = some m → Γ'.at (g r) = some m) {m : MI} {o : Ob} (h : ObOk Γ w m o) : ObOk Γ' w m (o.ren g) := by
  cases h with
  | cells b xs t cs a1 a2 a3 =>
    exact .cells b xs t _ a1 (by rw [rens_length]; exact a2) fun j x c hx hc => by
      rw [rens_get] at hc
      obtain ⟨c', hc', rfl⟩ := map_some hc
      exact ⟨(a3 j x c' hx hc').1.ren hM hat, (a3 j x c' hx hc').2⟩
  | loop l r ks cs st p a1 a2 a0 a3 =>
    exact .loop l r ks _ st p a1 a2 (by rw [rens_length]; exact a0) fun j t c hj hc => by
      rw [rens_get] at hc
      obtain ⟨c', hc', rfl⟩ := map_some hc
      exact (a3 j t c' hj hc').ren hM hat
  | buf0 g sz n => exact .buf0 g sz n
  | buf b g n sz xs t es c a1 a2 a3 a4 => exact .buf b g n sz xs t es c a1 a2 a3 fun j e he => ⟨(a4 j e he).1, (a4 j e he).2.1, (a4 j e he).2.2.less hM⟩
  | map b clock xs es a1 a2 a3 => exact .map b clock xs es a1 a2 fun j x e hx he => ⟨(a3 j x e hx he).1.less hM, (a3 j x e hx he).2.less hM⟩
  | gone => exact .gone

/-! ### an order -/

def posN (k : Nat) : List Nat → Nat
  | [] => 0
  | a :: r => bif Nat.beq a k then 0 else posN k r + 1
def atN (j : Nat) : List Nat → Nat
  | [] => 0
  | a :: r => match j with
    | 0 => a
    | j + 1 => atN j r
def posOf (π : List Nat) : Rf → Rf
  | .l k => .b (posN k π)
  | r => r
def backOf (π : List Nat) : Rf → Rf
  | .b j => .l (atN j π)
  | r => r

theorem posN_get {k : Nat} : ∀ {π : List Nat}, k ∈ π → π[posN k π]? = some k
  | [], h => by cases h
  | a :: r, h => by
    simp only [posN]
    cases hb : Nat.beq a k with
    | true => simp only [cond_true]; rw [Nat.eq_of_beq_eq_true hb]; rfl
    | false =>
      simp only [cond_false]
      have : k ∈ r := by
        cases h with
        | head => simp at hb
        | tail _ h => exact h
      simpa using posN_get this
theorem posN_at : ∀ {π : List Nat}, π.Nodup → ∀ {j i : Nat}, π[j]? = some i → posN i π = j
  | [], _, j, i, h => by simp at h
  | a :: r, hn, j, i, h => by
    rw [List.nodup_cons] at hn
    simp only [posN]
    cases j with
    | zero => simp at h; subst h; simp
    | succ j =>
      have h : r[j]? = some i := by simpa using h
      have hne : ¬ a = i := fun e => hn.1 (by rw [e]; exact List.mem_of_getElem? h)
      rw [beq_ne hne]
      simp only [cond_false]
      rw [posN_at hn.2 h]
theorem atN_get : ∀ {π : List Nat} {j i : Nat}, π[j]? = some i → atN j π = i
  | [], j, i, h => by simp at h
  | a :: r, j, i, h => by
    cases j with
    | zero => simp at h; subst h; rfl
    | succ j => exact atN_get (π := r) (by simpa using h)

theorem CallVC.meth {f : Nat} {args args' : List AV} {lo H0 H1 lo' : List Ob} {K : AV → List Ob → List Ob → Prop} {r1 : AV} (π : List Nat) (h : callA P f args' H0 fun r H' => r = r1 ∧ H' = H1)
    (ea : AV.rens (posOf π) args = args') (eh : (π.map fun i => (lo.getD i .gone).ren (posOf π)) = H0) (el : ((List.range lo.length).map fun i => (H1.getD (posN i π) .gone).ren (backOf π)) = lo') (hl : H1.length = lo.length)
    (p1 : π.Nodup) (p2 : ∀ k, k < lo.length → k ∈ π) (p3 : π.length = lo.length) (k : K (r1.ren (backOf π)) [] lo') : CallVC P f args [] lo K := by
  subst ea; subst eh; subst el
  refine ⟨fun μ w xs hi hx => ?_⟩
  have hn : μ.length = lo.length := by rw [hi.len]; simp
  have p4 : ∀ i, i ∈ π → i < lo.length := by
    intro i him
    rcases Nat.lt_or_ge i lo.length with h | h
    · exact h
    · -- one more than fits
      have hsub : (i :: List.range lo.length).Nodup := by
        rw [List.nodup_cons]
        exact ⟨by simp; exact h, List.nodup_range⟩
      have hle : (i :: List.range lo.length).length ≤ π.length := hsub.length_le_of_subset fun x hx => by
        cases hx with
        | head => exact him
        | tail _ hx => exact p2 x (List.mem_range.1 hx)
      simp at hle
      omega
  -- the places in the new order
  have get : ∀ (j : Nat) (m : MI), (π.map fun i => μ.getD i .gone)[j]? = some m ↔ ∃ i, π[j]? = some i ∧ μ[i]? = some m := fun j m => by
    rw [List.getElem?_map]
    constructor
    · intro h
      obtain ⟨i, h1, h2⟩ := map_some h
      refine ⟨i, h1, ?_⟩
      have hlt : i < μ.length := by rw [hn]; exact p4 i (List.mem_of_getElem? h1)
      rw [List.getElem?_eq_getElem hlt] at *
      simp [List.getD, hlt] at h2
      rw [h2]
    · rintro ⟨i, h1, h2⟩
      rw [h1]
      simp [List.getD, h2]
  have back : ∀ (i : Nat) (m : MI), μ[i]? = some m → (π.map fun i => μ.getD i .gone)[posN i π]? = some m := fun i m h => by
    rw [get]
    exact ⟨i, posN_get (p2 i (by rw [← hn]; exact get_lt h)), h⟩
  generalize hμ : (π.map fun i => μ.getD i .gone) = ν at get back
  have hνl : ν.length = lo.length := by rw [← hμ, List.length_map, p3]
  have hbk : ∀ b, blocks ν b ↔ blocks μ b := fun b => by
    constructor
    · rintro ⟨j, m, h1, h2⟩
      obtain ⟨i, _, h3⟩ := (get j m).1 h1
      exact ⟨i, m, h3, h2⟩
    · rintro ⟨i, m, h1, h2⟩
      exact ⟨_, m, back i m h1, h2⟩
  have hlen0 : (π.map fun i => (lo.getD i .gone).ren (posOf π)).length = lo.length := by rw [List.length_map, p3]
  have hat : ∀ r m, Ctx.at ⟨blocks μ, ([] : List Ob).length, μ⟩ r = some m → Ctx.at ⟨blocks ν, lo.length, ν⟩ (posOf π r) = some m := fun r m h => by
    cases r with
    | l k =>
      simp only [Ctx.at, List.length_nil, Nat.zero_add] at h
      simp only [posOf, Ctx.at]
      have hb := back k m h
      rw [if_pos (by rw [← hνl]; exact get_lt hb)]
      exact hb
    | b id => simp only [Ctx.at, List.length_nil] at h; rw [if_neg (Nat.not_lt_zero _)] at h; cases h
  have hM : ∀ b, ¬ blocks μ b → ¬ blocks ν b := fun b h h2 => h ((hbk b).1 h2)
  have hi2 : Inv ν w (π.map fun i => (lo.getD i .gone).ren (posOf π)) [] := by
    refine ⟨by rw [hνl, hlen0]; rfl, fun a c m m' b g1 g2 g3 g4 => ?_, fun j o ho => ?_, fun k o ho => by simp at ho⟩
    · obtain ⟨i1, a1, a2⟩ := (get a m).1 g1
      obtain ⟨i2, b1, b2⟩ := (get c m').1 g2
      have := hi.apart i1 i2 m m' b a2 b2 g3 g4
      subst this
      rw [← posN_at p1 a1, ← posN_at p1 b1]
    · rw [List.getElem?_map] at ho
      obtain ⟨i, h1, rfl⟩ := map_some ho
      have hlt := p4 i (List.mem_of_getElem? h1)
      obtain ⟨m, g1, g2⟩ := hi.locs i lo[i] (List.getElem?_eq_getElem hlt)
      simp only [List.length_nil, Nat.zero_add] at g1
      refine ⟨m, (get j m).2 ⟨i, h1, g1⟩, ?_⟩
      have e : lo.getD i .gone = lo[i] := by simp [List.getD, hlt]
      rw [e, hlen0, List.take_of_length_le (by omega)]
      exact g2.ren hM hat
  refine (h ν w xs hi2 ⟨by rw [rens_length]; exact hx.1, fun j x a hj ha => ?_⟩).mono fun e w' hw => ?_
  · rw [rens_get] at ha
    obtain ⟨a', ha', rfl⟩ := map_some ha
    rw [hlen0]
    exact (hx.2 j x a' hj ha').ren hM hat
  · obtain ⟨v, r, H', ν', he, ⟨rfl, rfl⟩, g3, g4, g5⟩ := hw
    have hν'l : ν'.length = lo.length := by have := g3.len; simp at this; omega
    have rng : ∀ {i : Nat}, (List.range lo.length)[i]? = if i < lo.length then some i else none := fun {i} => by
      by_cases hl : i < lo.length
      · rw [if_pos hl, List.getElem?_range hl]
      · rw [if_neg hl, List.getElem?_eq_none (by simp; omega)]
    have get2 : ∀ (i : Nat) (m : MI), ((List.range lo.length).map fun i => ν'.getD (posN i π) .gone)[i]? = some m ↔ i < lo.length ∧ ν'[posN i π]? = some m := fun i m => by
      rw [List.getElem?_map, rng]
      by_cases hl : i < lo.length
      · have hp : posN i π < ν'.length := by rw [hν'l, ← p3]; exact get_lt (posN_get (p2 i hl))
        simp [hl, List.getD, hp]
      · simp [hl]
    generalize hμ3 : ((List.range lo.length).map fun i => ν'.getD (posN i π) .gone) = μ3 at get2
    have hμ3l : μ3.length = lo.length := by rw [← hμ3]; simp
    have fwd : ∀ (j : Nat) (m : MI), ν'[j]? = some m → ∃ i, π[j]? = some i ∧ μ3[i]? = some m := fun j m h => by
      have hj : j < π.length := by rw [p3, ← hν'l]; exact get_lt h
      have h1 : π[j]? = some π[j] := List.getElem?_eq_getElem hj
      refine ⟨_, h1, (get2 _ m).2 ⟨p4 _ (List.getElem_mem _), ?_⟩⟩
      rw [posN_at p1 h1]
      exact h
    have hbk3 : ∀ b, blocks μ3 b ↔ blocks ν' b := fun b => by
      constructor
      · rintro ⟨i, m, h1, h2⟩
        exact ⟨_, m, ((get2 i m).1 h1).2, h2⟩
      · rintro ⟨j, m, h1, h2⟩
        obtain ⟨i, _, h3⟩ := fwd j m h1
        exact ⟨i, m, h3, h2⟩
    have hM3 : ∀ b, ¬ blocks ν' b → ¬ blocks μ3 b := fun b h h2 => h ((hbk3 b).1 h2)
    have hat3 : ∀ (X : List MI), (∀ (j : Nat) (m : MI), X[j]? = some m → ν'[j]? = some m) → ∀ r m, Ctx.at ⟨blocks ν', H'.length, X⟩ r = some m → Ctx.at ⟨blocks μ3, ([] : List Ob).length, μ3⟩ (backOf π r) = some m := fun X hX r m h => by
      cases r with
      | l k =>
        simp only [Ctx.at] at h
        have := get_lt (hX _ _ h)
        omega
      | b j =>
        simp only [Ctx.at] at h
        split at h
        · obtain ⟨i, h1, h2⟩ := fwd j m (hX _ _ h)
          simp only [backOf, Ctx.at, List.length_nil, Nat.zero_add]
          rw [atN_get h1]
          exact h2
        · cases h
    refine ⟨v, _, μ3, [], _, he, g4.ren hM3 (hat3 ν' fun _ _ h => h), ?_, ⟨g5.os, g5.tape, g5.output, fun i m hm => ?_, g5.stays.1, fun b hb hm => ?_⟩, rfl, k⟩
    · refine ⟨by rw [hμ3l]; simp, fun a c m m' b g1 g2 h3 h4 => ?_, fun i o ho => by simp at ho, fun i o ho => ?_⟩
      · obtain ⟨a1, a2⟩ := (get2 a m).1 g1
        obtain ⟨b1, b2⟩ := (get2 c m').1 g2
        have e1 := g3.apart _ _ m m' b a2 b2 h3 h4
        have e2 := posN_get (p2 a a1)
        have e3 := posN_get (p2 c b1)
        rw [e1, e3] at e2
        exact (Option.some.inj e2).symm
      · rw [List.getElem?_map, rng] at ho
        by_cases hl2 : i < lo.length
        · rw [if_pos hl2] at ho
          simp only [Option.map_some, Option.some.injEq] at ho
          subst ho
          have hp : posN i π < H'.length := by rw [hl, ← p3]; exact get_lt (posN_get (p2 i hl2))
          obtain ⟨m, k1, k2⟩ := g3.bases (posN i π) H'[posN i π] (List.getElem?_eq_getElem hp)
          refine ⟨m, by simp only [List.length_nil, Nat.zero_add]; exact (get2 i m).2 ⟨hl2, k1⟩, ?_⟩
          have e : H'.getD (posN i π) .gone = H'[posN i π] := by simp [List.getD, hp]
          rw [e]
          refine k2.ren hM3 (hat3 _ fun j m h => ?_)
          rw [List.getElem?_take] at h
          split at h
          · exact h
          · cases h
        · rw [if_neg hl2] at ho
          cases ho
    · obtain ⟨m', h1, h2⟩ := g5.above _ m (back i m hm)
      exact ⟨m', (get2 i m').2 ⟨by rw [← hn]; exact get_lt hm, h1⟩, h2⟩
    · have hm2 : ¬ blocks ν b := fun h => hm ((hbk b).1 h)
      obtain ⟨h1, h2⟩ := g5.stays.2 b hb hm2
      exact ⟨hM3 b h1, h2⟩

end
end Go.Proofs.Ytkjidklifmcpnaa.AD
