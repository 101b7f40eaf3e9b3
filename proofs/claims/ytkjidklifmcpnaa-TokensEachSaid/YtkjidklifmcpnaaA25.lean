/- A plainer machine, twenty-five: what a call on plain values makes new is the caller's, wherever it stands. -/
import Derived.Test.YtkjidklifmcpnaaA24
namespace Go.Proofs.Ytkjidklifmcpnaa.AD
set_option linter.unusedVariables false
section
variable {P : Program}

/-- Values in which nothing is held but own objects. -/
inductive FlatA : AV → Prop
  | p (v : PV) : Flat v → FlatA (.p v)
  | ref (r : Rf) (o : Nat) : FlatA (.ref r o)
  | view (r : Rf) (g sz len : Nat) : FlatA (.view r g sz len)
  | elt (r : Rf) (g sz i o : Nat) : FlatA (.elt r g sz i o)
  | mapr (r : Rf) : FlatA (.mapr r)
  | clos (f : Fn) (vs bs : List AV) : (∀ a, a ∈ vs → FlatA a) → (∀ a, a ∈ bs → FlatA a) → FlatA (.clos f vs bs)
  | agg (cs : List AV) : (∀ a, a ∈ cs → FlatA a) → FlatA (.agg cs)
  | tup (cs : List AV) : (∀ a, a ∈ cs → FlatA a) → FlatA (.tup cs)
def FlatO : Ob → Prop
  | .cells cs => ∀ a, a ∈ cs → FlatA a
  | .loop _ _ _ cs _ => ∀ a, a ∈ cs → FlatA a
  | .buf _ _ es => ∀ e, e ∈ es → Flat e
  | .map es => ∀ e, e ∈ es → Flat e.1 ∧ Flat e.2
  | .gone => True

theorem VA.anyM {M M' : Nat → Prop} {n0 : Nat} {μ : List MI} {w : World} {v : Value} {a : AV} (h : VA ⟨M, n0, μ⟩ w v a) : FlatA a → VA ⟨M', n0, μ⟩ w v a := by
  have hat : ∀ {r : Rf} {m : MI}, Ctx.at ⟨M, n0, μ⟩ r = some m → Ctx.at ⟨M', n0, μ⟩ r = some m := fun {r m} h => by
    cases r <;> exact h
  induction h with
  | p v e h =>
    intro hf
    cases hf with
    | p _ hf => exact .p v e (h.anywhere hf)
  | ref r off b h => intro _; exact .ref _ off b (hat h)
  | view0 r g' sz n h => intro _; exact .view0 _ g' sz n (hat h)
  | view r g' sz n b len cap h hl hc => intro _; exact .view _ g' sz n b len cap (hat h) hl hc
  | viewOld v r g' sz len b g2 n h hg h0 => intro _; exact .viewOld v _ g' sz len b g2 n (hat h) hg h0
  | viewGone v r g' sz len h h0 => intro _; exact .viewGone v _ g' sz len (hat h) h0
  | elt r g' sz n b idx off h => intro _; exact .elt _ g' sz n b idx off (hat h)
  | eltOld v r g' sz idx off b g2 n h hg h0 => intro _; exact .eltOld v _ g' sz idx off b g2 n (hat h) hg h0
  | eltGone v r g' sz idx off h h0 => intro _; exact .eltGone v _ g' sz idx off (hat h) h0
  | mapr r b h => intro _; exact .mapr _ b (hat h)
  | maprGone v r h h0 => intro _; exact .maprGone v _ (hat h) h0
  | clos f xs ys vs bs h1 h2 _ _ ih1 ih2 =>
    intro hf
    cases hf with
    | clos _ _ _ f1 f2 => exact .clos f xs ys vs bs h1 h2 (fun j x c hx hc => ih1 j x c hx hc (f1 c (List.mem_of_getElem? hc))) (fun j x c hx hc => ih2 j x c hx hc (f2 c (List.mem_of_getElem? hc)))
  | agg xs cs h1 _ h3 ih =>
    intro hf
    cases hf with
    | agg _ f1 => exact .agg xs cs h1 (fun j x c hx hc => ih j x c hx hc (f1 c (List.mem_of_getElem? hc))) h3
  | tup xs cs h1 _ ih =>
    intro hf
    cases hf with
    | tup _ f1 => exact .tup xs cs h1 (fun j x c hx hc => ih j x c hx hc (f1 c (List.mem_of_getElem? hc)))

theorem ObOk.anyM {M M' : Nat → Prop} {n0 : Nat} {μ : List MI} {w : World} {m : MI} {o : Ob} (h : ObOk ⟨M, n0, μ⟩ w m o) (hf : FlatO o) : ObOk ⟨M', n0, μ⟩ w m o := by
  cases h with
  | cells b xs t cs a1 a2 a3 => exact .cells b xs t _ a1 a2 fun j x c hx hc => ⟨(a3 j x c hx hc).1.anyM (hf c (List.mem_of_getElem? hc)), (a3 j x c hx hc).2⟩
  | buf0 g sz n => exact .buf0 g sz n
  | buf b g n sz xs t es c a1 a2 a3 a4 => exact .buf b g n sz xs t es c a1 a2 a3 fun j e he => ⟨(a4 j e he).1, (a4 j e he).2.1, (a4 j e he).2.2.anywhere (hf e (List.mem_of_getElem? he))⟩
  | map b clock xs es a1 a2 a3 => exact .map b clock xs es a1 a2 fun j x e hx he => ⟨(a3 j x e hx he).1.anywhere (hf e (List.mem_of_getElem? he)).1, (a3 j x e hx he).2.anywhere (hf e (List.mem_of_getElem? he)).2⟩
  | loop l r ks cs st p a1 a2 a0 a3 => exact .loop l r ks cs st p a1 a2 a0 fun j t c hj hc => (a3 j t c hj hc).anyM (hf c (List.mem_of_getElem? hc))
  | gone => exact .gone

theorem ObOk.lt {Γ : Ctx} {w : World} {m : MI} {o : Ob} (h : ObOk Γ w m o) {b : Nat} (hb : m.block? = some b) : b < w.heap.size := by
  cases h with
  | cells b xs t cs a1 => cases hb; exact (Array.getElem?_eq_some_iff.1 a1).1
  | buf0 => cases hb
  | buf b g n sz xs t es c a1 => cases hb; exact (Array.getElem?_eq_some_iff.1 a1).1
  | map b clock xs es a1 => cases hb; exact (Array.getElem?_eq_some_iff.1 a1).1
  | loop l r ks cs st p a1 => cases hb; exact (Array.getElem?_eq_some_iff.1 a1).1
  | gone => cases hb
theorem Inv.lt {μ : List MI} {w : World} {ba lo : List Ob} (h : Inv μ w ba lo) {b : Nat} (hb : blocks μ b) : b < w.heap.size := by
  obtain ⟨i, m, hm, hmb⟩ := hb
  have hi := get_lt hm
  rw [h.len] at hi
  rcases Nat.lt_or_ge i ba.length with hl | hl
  · obtain ⟨m', h1, h2⟩ := h.bases i ba[i] (List.getElem?_eq_getElem hl)
    rw [h1] at hm; cases hm
    exact h2.lt hmb
  · have hk : i - ba.length < lo.length := by omega
    obtain ⟨m', h1, h2⟩ := h.locs (i - ba.length) lo[i - ba.length] (List.getElem?_eq_getElem hk)
    rw [Nat.add_sub_cancel' hl] at h1
    rw [h1] at hm; cases hm
    exact h2.lt hmb

def upR (n : Nat) : Rf → Rf
  | .l k => .l (n + k)
  | r => r

theorem blocks_append {μ μ' : List MI} {b : Nat} : blocks (μ ++ μ') b → blocks μ b ∨ blocks μ' b := by
  rintro ⟨i, m, hm, hb⟩
  rcases Nat.lt_or_ge i μ.length with hl | hl
  · rw [List.getElem?_append_left hl] at hm; exact .inl ⟨i, m, hm, hb⟩
  · rw [List.getElem?_append_right hl] at hm; exact .inr ⟨_, m, hm, hb⟩

theorem nil_args {M : Nat → Prop} {n0 : Nat} {μ : List MI} {w : World} {xs : Array Value} {ps : List PV} (hx : VAs ⟨M, n0, μ⟩ w xs (ps.map .p)) : VAs ⟨blocks [], 0, []⟩ w xs (ps.map .p) := by
  refine ⟨hx.1, fun j x a hj ha => ?_⟩
  have := hx.2 j x a hj ha
  rw [List.getElem?_map] at ha
  obtain ⟨p, hp, rfl⟩ := Option.map_eq_some_iff.1 ha
  exact .p _ _ (this.pv.mono ⟨Nat.le_refl _, fun b _ _ => ⟨fun ⟨i, m, h, _⟩ => by simp at h, rfl⟩⟩)

/-- What is made new stands behind what there is. -/
theorem CallVC.fresh {f : Nat} {ps : List PV} {lo os : List Ob} {r0 : AV} {K : AV → List Ob → List Ob → Prop} (h : CallVC P f (ps.map .p) [] [] fun r b l => r = r0 ∧ l = os) (hr : FlatA r0) (ho : ∀ o, o ∈ os → FlatO o)
    (n : Nat) (hn : lo.length = n) (k : K (r0.ren (upR n)) [] (lo ++ os.map (Ob.ren (upR n)))) : CallVC P f (ps.map .p) [] lo K := by
  subst hn
  refine ⟨fun μ w xs hi hx => ?_⟩
  refine (h.out [] w xs (inv_nil w) (nil_args hx)).mono fun e w' hw => ?_
  obtain ⟨v, r, μ', ba', lo', rfl, g2, g3, g4, g5, rfl, rfl⟩ := hw
  have hba : ba' = [] := List.length_eq_zero_iff.1 (by simpa using g5)
  subst hba
  have hμl : μ.length = lo.length := by rw [hi.len]; simp
  have none0 : ∀ b, ¬ blocks [] b := fun b ⟨i, m, h, _⟩ => by simp at h
  have hnew : ∀ b, b < w.heap.size → ¬ blocks μ' b ∧ w'.heap[b]? = w.heap[b]? := fun b hb => g4.stays.2 b hb (none0 b)
  have hst : Stays (blocks μ) w (blocks (μ ++ μ')) w' := ⟨g4.stays.1, fun b hb hm => ⟨fun hc => by
    rcases blocks_append hc with hc | hc
    · exact hm hc
    · exact (hnew b hb).1 hc, (hnew b hb).2⟩⟩
  have hab : Above μ (μ ++ μ') := fun i m hm => ⟨m, by rw [List.getElem?_append_left (get_lt hm)]; exact hm, .refl _⟩
  have hat : ∀ r m, Ctx.at ⟨blocks (μ ++ μ'), 0, μ'⟩ r = some m → Ctx.at ⟨blocks (μ ++ μ'), 0, μ ++ μ'⟩ (upR lo.length r) = some m := fun r m hm => by
    cases r with
    | l k =>
      simp only [Ctx.at, upR, Nat.zero_add] at hm ⊢
      rw [← hμl, List.getElem?_append_right (by omega), Nat.add_sub_cancel_left]
      exact hm
    | b id => simp [Ctx.at] at hm
  refine ⟨v, _, μ ++ μ', [], _, rfl, VA.ren (Γ := ⟨blocks (μ ++ μ'), 0, μ'⟩) (Γ' := ⟨blocks (μ ++ μ'), 0, μ ++ μ'⟩) (g := upR lo.length) (fun _ h => h) hat (VA.anyM g2 hr), ?_, ⟨g4.os, g4.tape, g4.output, hab, hst⟩, rfl, k⟩
  refine ⟨by have := g3.len; simp at this ⊢; omega, fun i j m m' b h1 h2 h3 h4 => ?_, fun i o ho => by simp at ho, fun k o hk => ?_⟩
  · rcases Nat.lt_or_ge i μ.length with hl | hl <;> rcases Nat.lt_or_ge j μ.length with hl2 | hl2
    · rw [List.getElem?_append_left hl] at h1
      rw [List.getElem?_append_left hl2] at h2
      exact hi.apart i j m m' b h1 h2 h3 h4
    · rw [List.getElem?_append_left hl] at h1
      rw [List.getElem?_append_right hl2] at h2
      exact absurd ⟨_, _, h2, h4⟩ (hnew b (hi.lt ⟨_, _, h1, h3⟩)).1
    · rw [List.getElem?_append_right hl] at h1
      rw [List.getElem?_append_left hl2] at h2
      exact absurd ⟨_, _, h1, h3⟩ (hnew b (hi.lt ⟨_, _, h2, h4⟩)).1
    · rw [List.getElem?_append_right hl] at h1
      rw [List.getElem?_append_right hl2] at h2
      have := g3.apart _ _ m m' b h1 h2 h3 h4
      omega
  · simp only [List.length_nil, Nat.zero_add]
    rcases Nat.lt_or_ge k lo.length with hl | hl
    · rw [List.getElem?_append_left hl] at hk
      obtain ⟨m, h1, h2⟩ := hi.locs k o hk
      simp only [List.length_nil, Nat.zero_add] at h1
      exact ⟨m, by rw [List.getElem?_append_left (get_lt h1)]; exact h1, h2.mono hst hab fun b hb => (hnew b (h2.lt hb)).2⟩
    · rw [List.getElem?_append_right hl, List.getElem?_map] at hk
      obtain ⟨o', ho', rfl⟩ := Option.map_eq_some_iff.1 hk
      obtain ⟨m, h1, h2⟩ := g3.locs _ o' ho'
      simp only [List.length_nil, Nat.zero_add] at h1
      exact ⟨m, by rw [List.getElem?_append_right (by omega), hμl]; exact h1, ObOk.ren (Γ := ⟨blocks (μ ++ μ'), 0, μ'⟩) (Γ' := ⟨blocks (μ ++ μ'), 0, μ ++ μ'⟩) (g := upR lo.length) (fun _ h => h) hat (ObOk.anyM h2 (ho o' (List.mem_of_getElem? ho')))⟩

/-! ### and may be told vs a plain value -/
inductive LendF (lo : List Ob) : AV → PV → Prop
  | p (v : PV) : Flat v → LendF lo (.p v) v
  | view (k g sz len : Nat) (es : List PV) : lo[k]? = some (.buf g sz es) → len = es.length → (∀ e, e ∈ es → Flat e) → LendF lo (.view (.l k) g sz len) (.list sz es)
  | agg (cs : List AV) (ps : List PV) : cs.length = ps.length → (∀ (j : Nat) (c : AV) (p : PV), cs[j]? = some c → ps[j]? = some p → LendF lo c p) → LendF lo (.agg cs) (.agg ps)
  | tup (cs : List AV) (ps : List PV) : cs.length = ps.length → (∀ (j : Nat) (c : AV) (p : PV), cs[j]? = some c → ps[j]? = some p → LendF lo c p) → LendF lo (.tup cs) (.tup ps)

theorem LendF.close {lo : List Ob} {a : AV} {p : PV} (h : LendF lo a p) : ∀ (μ : List MI) (w : World) (M : Nat → Prop), Inv μ w [] lo → (∀ b, blocks μ b → ¬ M b) → ∀ v, VA ⟨blocks μ, 0, μ⟩ w v a → VP M w v p := by
  induction h with
  | p v hf => intro μ w M hi hM x hx; exact hx.pv.anywhere hf
  | view k g sz len es hf hl hfl =>
    intro μ w M hi hM x hx
    subst hl
    obtain ⟨m, hm, hok⟩ := hi.locs k _ hf
    simp only [List.length_nil, Nat.zero_add] at hm
    have hat : Ctx.at ⟨blocks μ, 0, μ⟩ (.l k) = some m := by simp only [Ctx.at, Nat.zero_add]; exact hm
    generalize hlen : es.length = len at hx
    cases hx with
    | view0 _ _ _ n ha =>
      rw [List.length_eq_zero_iff.1 hlen]; exact .list0 _ _ _ fun _ => rfl
    | view _ _ _ n b _ cap ha hlc hcs =>
      rw [hat] at ha
      cases ha
      cases hok with
      | buf _ _ _ _ xs t _ c k1 k2 k3 k4 =>
        have hb : b < w.heap.size := (Array.getElem?_eq_some_iff.1 k1).1
        have hcell : ∀ (i : Nat) (y : Value), xs[i]? = some y → w.cell? ⟨b, 0 + i, none⟩ = some y := fun i y hy => by
          unfold World.cell?
          rw [k1]
          simp [hy]
        rw [← hlen]
        exact VP.list (M := M) (w := w) b 0 cap sz es c (hM b ⟨k, _, hm, rfl⟩) hb (by omega)
          (fun j e he => (k4 j e he).1)
          (fun j e he i y hy => ⟨((k4 j e he).2.1 i y hy).1, hcell _ _ ((k4 j e he).2.1 i y hy).2⟩)
          (fun j e he => (k4 j e he).2.2.anywhere (hfl e (List.mem_of_getElem? he)))
    | viewOld _ _ _ _ _ b g' n ha hg h0 =>
      rw [hat] at ha
      cases ha
      cases hok <;> exact absurd hg (Nat.lt_irrefl _)
    | viewGone _ _ _ _ _ ha h0 =>
      rw [hat] at ha
      cases ha
      cases hok
  | agg cs ps hl hc ih =>
    intro μ w M hi hM x hx
    cases hx with
    | agg xs _ k1 k2 k3 =>
      refine .agg xs ps (by rw [k1, hl]) (fun j y p hy hp => ?_) k3
      have hj2 : j < cs.length := by rw [hl]; exact get_lt hp
      exact ih j _ p (List.getElem?_eq_getElem hj2) hp μ w M hi hM y (k2 j y _ hy (List.getElem?_eq_getElem hj2))
  | tup cs ps hl hc ih =>
    intro μ w M hi hM x hx
    cases hx with
    | tup xs _ k1 k2 =>
      refine .tup xs ps (by rw [k1, hl]) (fun j y p hy hp => ?_)
      have hj2 : j < cs.length := by rw [hl]; exact get_lt hp
      exact ih j _ p (List.getElem?_eq_getElem hj2) hp μ w M hi hM y (k2 j y _ hy (List.getElem?_eq_getElem hj2))

theorem pureF_fresh {f : Nat} {ps : List PV} {R : PV} (h : CallVC P f (ps.map .p) [] [] fun r b l => LendF l r R) : AD.pureF P f (ps.map .p) (.p R) := by
  intro H μ w xs hi hx
  refine Calls.mono' (h.out [] w xs (inv_nil w) (nil_args hx)) fun e w' hw => ?_
  obtain ⟨v, r, μ', ba', lo', rfl, g2, g3, g4, g5, g6⟩ := hw
  have hba : ba' = [] := List.length_eq_zero_iff.1 (by simpa using g5)
  subst hba
  have hnew : ∀ b, b < w.heap.size → ¬ blocks μ' b ∧ w'.heap[b]? = w.heap[b]? := fun b hb => g4.stays.2 b hb fun ⟨i, m, h, _⟩ => by simp at h
  have hv : VP (blocks μ) w' v R := g6.close μ' w' (blocks μ) g3 (fun b hb hc => (hnew b (hi.lt hc)).1 hb) v g2
  exact ⟨v, _, _, μ, rfl, ⟨rfl, rfl⟩, hi.kept g4.stays.1 fun b hb => (hnew b hb).2, .p _ _ hv, g4.os, g4.tape, g4.output, .refl μ, g4.stays.1, fun b hb hm => ⟨hm, (hnew b hb).2⟩⟩

/-! ### a list that is nil yet, behind a call -/
theorem Inv.ghost {μ : List MI} {w : World} {ba lo : List Ob} (hi : Inv μ w ba lo) (m j sz : Nat) {cs : List AV} (h1 : lo[m]? = some (.cells cs)) (h2 : cs[j]? = some (.p .nils)) :
    Stays (blocks μ) w (blocks (μ ++ [.buf none 0 0])) w ∧ Above μ (μ ++ [.buf none 0 0]) ∧ Inv (μ ++ [.buf none 0 0]) w ba (lo.set m (.cells (cs.set j (.view (.l lo.length) 0 sz 0))) ++ [.buf 0 sz []]) := by
  have hblk : ∀ b, blocks (μ ++ [.buf none 0 0]) b → blocks μ b := by
    rintro b ⟨i, m', hm, hb⟩
    rcases Nat.lt_or_ge i μ.length with hl | hl
    · rw [List.getElem?_append_left hl] at hm; exact ⟨i, m', hm, hb⟩
    · rw [List.getElem?_append_right hl] at hm
      have : i - μ.length = 0 := by have := get_lt hm; simp at this; omega
      rw [this] at hm
      cases hm
      cases hb
  have hst : Stays (blocks μ) w (blocks (μ ++ [.buf none 0 0])) w := ⟨Nat.le_refl _, fun b _ hb => ⟨fun hc => hb (hblk b hc), rfl⟩⟩
  have hab : Above μ (μ ++ [.buf none 0 0]) := fun i m' hm => ⟨m', by rw [List.getElem?_append_left (get_lt hm)]; exact hm, .refl _⟩
  have hle : ba.length ≤ μ.length := by rw [hi.len]; omega
  have htk : (μ ++ [MI.buf none 0 0]).take ba.length = μ.take ba.length := List.take_append_of_le_length hle
  have obm : ∀ {m : MI} {o : Ob} {μ1 μ2 : List MI}, Above μ1 μ2 → ObOk ⟨blocks μ, ba.length, μ1⟩ w m o → ObOk ⟨blocks (μ ++ [.buf none 0 0]), ba.length, μ2⟩ w m o := fun ha ho => ho.mono hst ha fun b _ => rfl
  have hml := get_lt h1
  have hi2 : Inv (μ ++ [.buf none 0 0]) w ba (lo.set m (.cells (cs.set j (.view (.l lo.length) 0 sz 0))) ++ [.buf 0 sz []]) := by
    refine ⟨by simp [hi.len]; omega, fun a c m1 m2 b g1 g2 g3 g4 => ?_, fun i o ho => ?_, fun k o ho => ?_⟩
    · have lt : ∀ {a : Nat} {m1 : MI}, (μ ++ [.buf none 0 0])[a]? = some m1 → m1.block? = some b → μ[a]? = some m1 := fun {a m1} g1 g3 => by
        rcases Nat.lt_or_ge a μ.length with hl | hl
        · rwa [List.getElem?_append_left hl] at g1
        · rw [List.getElem?_append_right hl] at g1
          have : a - μ.length = 0 := by have := get_lt g1; simp at this; omega
          rw [this] at g1
          cases g1
          cases g3
      exact hi.apart a c m1 m2 b (lt g1 g3) (lt g2 g4) g3 g4
    · obtain ⟨m1, g1, g2⟩ := hi.bases i o ho
      refine ⟨m1, by rw [List.getElem?_append_left (get_lt g1)]; exact g1, ?_⟩
      rw [htk]
      exact obm (.refl _) g2
    · rcases Nat.lt_or_ge k lo.length with hk | hk
      · rw [List.getElem?_append_left (by simpa using hk), List.getElem?_set] at ho
        by_cases hkm : m = k
        · subst hkm
          rw [if_pos rfl, if_pos hml] at ho
          cases ho
          obtain ⟨m1, g1, g2⟩ := hi.locs m _ h1
          refine ⟨m1, by rw [List.getElem?_append_left (get_lt g1)]; exact g1, ?_⟩
          cases obm hab g2 with
          | cells b ys t _ k1 k2 k3 =>
            refine .cells b ys t _ k1 (by simpa using k2) fun i x c hx hc => ?_
            rw [List.getElem?_set] at hc
            by_cases hij : j = i
            · subst hij
              rw [if_pos rfl, if_pos (get_lt h2)] at hc
              cases hc
              have hv := k3 j x _ hx h2
              refine ⟨?_, hv.2⟩
              have hx0 : x = .slice none 0 0 := by
                have := hv.1.pv
                cases this; rfl
              rw [hx0]
              exact .view0 _ _ _ 0 (by simp only [Ctx.at]; rw [← hi.len, List.getElem?_append_right (Nat.le_refl _), Nat.sub_self]; rfl)
            · rw [if_neg hij] at hc
              exact k3 i x c hx hc
        · rw [if_neg hkm] at ho
          obtain ⟨m1, g1, g2⟩ := hi.locs k o ho
          exact ⟨m1, by rw [List.getElem?_append_left (get_lt g1)]; exact g1, obm hab g2⟩
      · rw [List.getElem?_append_right (by simpa using hk)] at ho
        have hk2 : k = lo.length := by have := get_lt ho; simp at this; omega
        subst hk2
        simp at ho
        subst ho
        exact ⟨.buf none 0 0, by rw [← hi.len, List.getElem?_append_right (Nat.le_refl _), Nat.sub_self]; rfl, .buf0 _ _ _⟩
  exact ⟨hst, hab, hi2⟩

theorem CallVC.ghostP {f : Nat} {args : List AV} {ba lo : List Ob} {K : AV → List Ob → List Ob → Prop} (m j sz : Nat)
    (h : CallVC P f args ba lo fun r b l => ∃ cs, l[m]? = some (.cells cs) ∧ cs[j]? = some (.p .nils) ∧ K r b (l.set m (.cells (cs.set j (.view (.l l.length) 0 sz 0))) ++ [.buf 0 sz []])) : CallVC P f args ba lo K := by
  refine ⟨fun μ w xs hi hx => (h.out μ w xs hi hx).mono fun e w' hw => ?_⟩
  obtain ⟨v, r, μ', ba', lo', g1, g2, g3, g4, g5, cs, h1, h2, hk⟩ := hw
  obtain ⟨hst, hab, hi2⟩ := g3.ghost m j sz h1 h2
  rw [g5.symm] at g2
  have g2' : VA ⟨blocks (μ' ++ [.buf none 0 0]), ba.length, μ' ++ [.buf none 0 0]⟩ w' v r := by rw [← g5]; exact g2.mono hst hab
  exact ⟨v, r, _, ba', _, g1, g2', hi2, ⟨g4.os, g4.tape, g4.output, g4.above.trans hab, g4.stays.trans hst⟩, g5, hk⟩

theorem CallVC.args {f : Nat} {vs bs : List AV} {ba lo : List Ob} {K : AV → List Ob → List Ob → Prop} (h : CallVC P f bs ba lo K) (hl : AVles vs bs) : CallVC P f vs ba lo K := by
  obtain ⟨h1, h2⟩ := hl.out
  refine ⟨fun μ w xs hi hx => h.out μ w xs hi ⟨by rw [hx.1, h1], fun j x b hj hb => ?_⟩⟩
  obtain ⟨a, ha, hv⟩ := h2 j b hb
  exact hv _ _ _ (hx.2 j x a hj ha)

end
end Go.Proofs.Ytkjidklifmcpnaa.AD
