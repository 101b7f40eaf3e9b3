/- A plainer machine, twenty: how it is used. -/
import Derived.Test.YthmlninecfjjgaaG2
import Derived.IntWalk
namespace Go.Proofs.Ythmlninecfjjgaa.AD
set_option linter.unusedVariables false
section
variable {P : Program}

theorem CallVC.pureF {f : Nat} {args : List AV} {ba lo : List Ob} {K : AV → List Ob → List Ob → Prop} {e : PV} (h : pureF P f args (.p e)) (ha : AV.closes ba.length args = args) (k : K (.p e) ba lo) : CallVC P f args ba lo K :=
  .pure (by rw [ha]; exact h _) k

theorem CallD.pureF {f : Nat} {args : List AV} {ba lo : List Ob} {K : AV → List Ob → List Ob → Prop} {e : PV} (h : pureF P f args (.p e)) (ha : AV.closes ba.length args = args) (k : K (.p e) ba lo) : CallD P f args ba lo K :=
  ⟨e, fun X => by rw [ha]; exact h _, k⟩

theorem pureF_of {own : List Nat} {f : Nat} {ir : IF} {args : List AV} {r : AV} (hc : compF P own f = some ir.bare) (h : ∀ H, fnV P ir args H fun r' H' => r' = r ∧ H' = H) : pureF P f args r :=
  fun H => sound hc (h H)

/-! ### one value for another -/

/-- Whatever stands for the one stands for the other. -/
def PV.le (a b : PV) : Prop := ∀ (M : Nat → Prop) (w : World) (v : Value), VP M w v a → VP M w v b

theorem PV.le.refl (a : PV) : a.le a := fun _ _ _ h => h
theorem PV.le.trans {a b c : PV} (h : a.le b) (k : b.le c) : a.le c := fun M w v hv => k M w v (h M w v hv)

/-- Rows of such. -/
inductive PV.les : List PV → List PV → Prop
  | nil : PV.les [] []
  | cons (a b : PV) (as bs : List PV) : a.le b → PV.les as bs → PV.les (a :: as) (b :: bs)

theorem PV.les.refl : ∀ (l : List PV), PV.les l l
  | [] => .nil
  | a :: r => .cons a a r r (.refl a) (.refl r)
theorem PV.les.length {as bs : List PV} (h : PV.les as bs) : as.length = bs.length := by
  induction h with
  | nil => rfl
  | cons _ _ _ _ _ _ ih => simp [ih]
theorem PV.les.get {as bs : List PV} (h : PV.les as bs) : ∀ (j : Nat) (b : PV), bs[j]? = some b → ∃ a, as[j]? = some a ∧ a.le b := by
  induction h with
  | nil => intro j b e; simp at e
  | cons a b' as bs h _ ih =>
    intro j b e
    cases j with
    | zero => simp at e; subst e; exact ⟨a, rfl, h⟩
    | succ j => exact ih j b (by simpa using e)

theorem PV.le.agg {as bs : List PV} (h : PV.les as bs) : PV.le (.agg as) (.agg bs) := by
  intro M w v hv
  cases hv with
  | agg xs _ h1 h2 h3 =>
    refine .agg xs bs (by rw [h1, h.length]) (fun j x c hx hc => ?_) h3
    obtain ⟨a, ha, hl⟩ := h.get j c hc
    exact hl M w x (h2 j x a hx ha)
theorem PV.le.tup {as bs : List PV} (h : PV.les as bs) : PV.le (.tup as) (.tup bs) := by
  intro M w v hv
  cases hv with
  | tup xs _ h1 h2 =>
    refine .tup xs bs (by rw [h1, h.length]) (fun j x c hx hc => ?_)
    obtain ⟨a, ha, hl⟩ := h.get j c hc
    exact hl M w x (h2 j x a hx ha)
theorem PV.le.list {sz : Nat} {as bs : List PV} (h : PV.les as bs) : PV.le (.list sz as) (.list sz bs) := by
  intro M w v hv
  cases hv with
  | list0 sz A cap h0 => cases h; exact .list0 sz A cap h0
  | list b off cap _ _ c h1 h2 h3 h4 h5 h6 =>
    rw [h.length]
    rw [h.length] at h3
    refine .list b off cap sz bs c h1 h2 h3 (fun j e he => ?_) (fun j e he => ?_) (fun j e he => ?_)
    · obtain ⟨a, ha, hl⟩ := h.get j e he; exact h4 j a ha
    · obtain ⟨a, ha, hl⟩ := h.get j e he; exact h5 j a ha
    · obtain ⟨a, ha, hl⟩ := h.get j e he; exact hl M w _ (h6 j a ha)
theorem PV.le.lent {sz : Nat} {as sp bs : List PV} (h : PV.les as bs) : PV.le (.lent sz as sp) (.list sz bs) := by
  intro M w v hv
  cases hv with
  | lent b off cap _ _ _ c h1 h2 h3 h4 h5 h6 =>
    have up : ∀ {j : Nat} {a : PV}, as[j]? = some a → (as ++ sp)[j]? = some a := fun {j a} ha => by rw [List.getElem?_append_left (get_lt ha)]; exact ha
    rw [List.length_append, h.length] at h3
    rw [h.length]
    refine .list b off cap sz bs c h1 h2 (by omega) (fun j e he => ?_) (fun j e he => ?_) (fun j e he => ?_)
    · obtain ⟨a, ha, hl⟩ := h.get j e he; exact h4 j a (up ha)
    · obtain ⟨a, ha, hl⟩ := h.get j e he; exact h5 j a (up ha)
    · obtain ⟨a, ha, hl⟩ := h.get j e he; exact hl M w _ (h6 j a (up ha))
theorem PV.le.nils (sz : Nat) : PV.le .nils (.list sz []) := by
  intro M w v hv
  cases hv with
  | nils => exact .list0 sz none 0 fun _ => rfl

inductive AVles : List AV → List AV → Prop
  | nil : AVles [] []
  | same (a : AV) (as bs : List AV) : AVles as bs → AVles (a :: as) (a :: bs)
  | p (a b : PV) (as bs : List AV) : a.le b → AVles as bs → AVles (.p a :: as) (.p b :: bs)

theorem AVles.out {as bs : List AV} (h : AVles as bs) : as.length = bs.length ∧ ∀ (j : Nat) (b : AV), bs[j]? = some b → ∃ a, as[j]? = some a ∧ ∀ Γ w v, VA Γ w v a → VA Γ w v b := by
  induction h with
  | nil => exact ⟨rfl, fun j b e => by simp at e⟩
  | same a as bs _ ih =>
    refine ⟨by simp [ih.1], fun j b e => ?_⟩
    cases j with
    | zero => simp at e; subst e; exact ⟨a, rfl, fun _ _ _ h => h⟩
    | succ j => exact ih.2 j b (by simpa using e)
  | p a b' as bs hl _ ih =>
    refine ⟨by simp [ih.1], fun j b e => ?_⟩
    cases j with
    | zero => simp at e; subst e; exact ⟨_, rfl, fun _ _ _ h => .p _ _ (hl _ _ _ h.pv)⟩
    | succ j => exact ih.2 j b (by simpa using e)

/-- What is shown for plainer arguments holds for richer ones. -/
theorem callA.args {f : Nat} {as bs : List AV} {H : List Ob} {Q : AV → List Ob → Prop} (h : callA P f bs H Q) (hl : AVles as bs) : callA P f as H Q := by
  obtain ⟨h1, h2⟩ := hl.out
  intro μ w xs hi hx
  refine h μ w xs hi ⟨by rw [hx.1, h1], fun j x b hj hb => ?_⟩
  obtain ⟨a, ha, hv⟩ := h2 j b hb
  exact hv _ _ _ (hx.2 j x a hj ha)
theorem pureF.args {f : Nat} {as bs : List AV} {r : AV} (h : pureF P f bs r) (hl : AVles as bs) : pureF P f as r := fun H => (h H).args hl

theorem pureF.to {f : Nat} {as : List AV} {r r' : PV} (h : pureF P f as (.p r)) (hl : r.le r') : pureF P f as (.p r') := fun H μ w xs hi hx => by
  refine Calls.mono' (h H μ w xs hi hx) ?_
  rintro e w' ⟨v, r1, H', μ', g1, ⟨rfl, rfl⟩, g3, g4, g5⟩
  exact ⟨v, _, H', μ', g1, ⟨rfl, rfl⟩, g3, .p _ _ (hl _ _ _ g4.pv), g5⟩


theorem drop_cons {α : Type} {xs : List α} {i : Nat} {r : List α} {a : α} (h : xs.drop i = a :: r) : xs[i]? = some a ∧ xs.drop (i + 1) = r ∧ i < xs.length := by
  have hg : xs[i]? = some a := by
    have : (xs.drop i)[0]? = some a := by rw [h]; rfl
    rwa [List.getElem?_drop] at this
  refine ⟨hg, ?_, get_lt hg⟩
  have : xs.drop (i + 1) = (xs.drop i).drop 1 := by rw [List.drop_drop]
  rw [this, h]; rfl
theorem drop_nil {α : Type} {xs : List α} {i : Nat} (h : xs.drop i = []) : xs.length ≤ i := List.drop_eq_nil_iff.1 h

theorem ba_toList (s : ByteArray) : s.toList = s.data.toList := by
  have loop : ∀ (n i : Nat) (r : List UInt8), s.size - i = n → ByteArray.toList.loop s i r = r.reverse ++ s.data.toList.drop i := by
    intro n
    induction n with
    | zero =>
      intro i r h
      unfold ByteArray.toList.loop
      rw [if_neg (by omega), List.drop_eq_nil_iff.2 (by simp; show s.size ≤ i; omega)]
      simp
    | succ n ih =>
      intro i r h
      unfold ByteArray.toList.loop
      have hi : i < s.size := by omega
      rw [if_pos hi, ih (i + 1) _ (by omega)]
      have hi' : i < s.data.toList.length := by simp; exact hi
      rw [List.drop_eq_getElem_cons hi']
      simp [ByteArray.get!, getElem!_pos, hi]
  unfold ByteArray.toList
  rw [loop _ 0 [] rfl]
  simp
theorem ba_ext {a b : ByteArray} : a.toList = b.toList ↔ a.data.toList = b.data.toList := by rw [ba_toList, ba_toList]
theorem ba_size (s : ByteArray) : s.size = s.data.toList.length := by rw [Array.length_toList]; rfl

end
end Go.Proofs.Ythmlninecfjjgaa.AD

namespace Go.Proofs.Ythmlninecfjjgaa.AD
set_option linter.unusedVariables false
section
variable {P : Program}

/-- Values without places. -/
inductive Flat : PV → Prop
  | undef : Flat .undef
  | bool (b : Bool) : Flat (.bool b)
  | int (k : IntKind) (n : Int) : Flat (.int k n)
  | str (s : ByteArray) : Flat (.str s)
  | nils : Flat .nils
  | nilp : Flat .nilp
  | fn (f : Fn) : Flat (.fn f)
  | nilf : Flat .nilf
  | nilm : Flat .nilm
  | nili : Flat .nili
  | agg (cs : List PV) : (∀ c, c ∈ cs → Flat c) → Flat (.agg cs)
  | tup (cs : List PV) : (∀ c, c ∈ cs → Flat c) → Flat (.tup cs)

theorem VP.anywhere {M M' : Nat → Prop} {w w' : World} {v : Value} {e : PV} (h : VP M w v e) : Flat e → VP M' w' v e := by
  induction h with
  | undef v => intro _; exact .undef v
  | bool b => intro _; exact .bool b
  | int k n => intro _; exact .int k n
  | str s => intro _; exact .str s
  | agg xs cs h1 _ h3 ih =>
    intro hf
    cases hf with
    | agg _ hc => exact .agg xs cs h1 (fun j x c hx he => ih j x c hx he (hc c (List.mem_of_getElem? he))) h3
  | tup xs cs h1 _ ih =>
    intro hf
    cases hf with
    | tup _ hc => exact .tup xs cs h1 (fun j x c hx he => ih j x c hx he (hc c (List.mem_of_getElem? he)))
  | nils => intro _; exact .nils
  | nilp => intro _; exact .nilp
  | fn f => intro _; exact .fn f
  | nilf => intro _; exact .nilf
  | nilm => intro _; exact .nilm
  | nili => intro _; exact .nili
  | list0 => intro hf; cases hf
  | list => intro hf; cases hf
  | lent => intro hf; cases hf
  | ptr => intro hf; cases hf
  | iface => intro hf; cases hf

/-- Where an object stands. -/
def findO (ba lo : List Ob) : Rf → Option Ob
  | .l k => lo[k]?
  | .b id => ba[id]?

/-- A value, and what it is while nobody writes. -/
inductive Lend (ba lo : List Ob) : AV → PV → Prop
  | p (v : PV) : Lend ba lo (.p v) v
  | view (r : Rf) (g sz len : Nat) (es : List PV) : findO ba lo r = some (.buf g sz es) → len ≤ es.length → Lend ba lo (.view r g sz len) (.list sz (es.take len))
  | refL (k : Nat) (cs : List AV) (ps : List PV) : lo[k]? = some (.cells cs) → cs.length = ps.length → (∀ (j : Nat) (c : AV) (p : PV), cs[j]? = some c → ps[j]? = some p → Lend ba lo c p) → Lend ba lo (.ref (.l k) 0) (.ptr ps)
  | refB (id : Nat) (ps : List PV) : ba[id]? = some (.cells (ps.map .p)) → Lend ba lo (.ref (.b id) 0) (.ptr ps)
  | agg (cs : List AV) (ps : List PV) : cs.length = ps.length → (∀ (j : Nat) (c : AV) (p : PV), cs[j]? = some c → ps[j]? = some p → Lend ba lo c p) → Lend ba lo (.agg cs) (.agg ps)

theorem Lend.close {ba lo : List Ob} {a : AV} {p : PV} (h : Lend ba lo a p) : ∀ (μ : List MI) (w : World), Inv μ w (flat ba lo) [] → ∀ v, VA ⟨blocks μ, (flat ba lo).length, μ⟩ w v (a.close ba.length) → VP (fun _ => False) w v p := by
  have fresh : ∀ (μ : List MI) (w : World), Stays (blocks μ) w (fun _ => False) w := fun μ w => ⟨Nat.le_refl _, fun _ _ _ => ⟨fun h => h, rfl⟩⟩
  induction h with
  | p v => intro μ w hi x hx; exact hx.pv.mono (fresh μ w)
  | view r g sz len es hf hl =>
    intro μ w hi x hx
    have hfl : ∃ id, r.close ba.length = .b id ∧ (flat ba lo)[id]? = some (.buf g sz es) := by
      cases r with
      | l k => exact ⟨ba.length + k, rfl, by rw [flat, List.getElem?_append_right (by omega), Nat.add_sub_cancel_left, List.getElem?_map, show lo[k]? = _ from hf]; rfl⟩
      | b id => exact ⟨id, rfl, by rw [flat, List.getElem?_append_left (get_lt hf)]; exact hf⟩
    obtain ⟨id, h1, h2⟩ := hfl
    rw [AV.close, h1] at hx
    obtain ⟨m, hm, hok⟩ := hi.bases id _ h2
    have hlt := get_lt h2
    have hat : Ctx.at ⟨blocks μ, (flat ba lo).length, μ⟩ (.b id) = some m := by rw [Ctx.at, if_pos hlt]; exact hm
    cases hx with
    | view0 _ _ _ n ha =>
      rw [List.take_zero]; exact .list0 _ _ _ fun _ => rfl
    | view _ _ _ n b _ cap ha hlc hcs =>
      rw [hat] at ha
      cases ha
      cases hok with
      | buf _ _ _ _ xs t _ c k1 k2 k3 k4 =>
        have hb : b < w.heap.size := (Array.getElem?_eq_some_iff.1 k1).1
        rcases Nat.eq_zero_or_pos len with h0 | h0
        · subst h0; rw [List.take_zero]; exact .list0 _ _ _ fun e => by cases e
        · have ht : (es.take len).length = len := by rw [List.length_take]; omega
          have up : ∀ {j : Nat} {e : PV}, (es.take len)[j]? = some e → es[j]? = some e := fun {j e} he => by
            rw [List.getElem?_take] at he
            split at he
            · exact he
            · cases he
          have hcell : ∀ (i : Nat) (y : Value), xs[i]? = some y → w.cell? ⟨b, 0 + i, none⟩ = some y := fun i y hy => by
            unfold World.cell?
            rw [k1]
            simp [hy]
          have hv := VP.list (M := fun _ => False) (w := w) b 0 cap sz (es.take len) c (fun h => h) hb (by rw [ht]; exact hlc)
            (fun j e he => (k4 j e (up he)).1)
            (fun j e he i y hy => ⟨((k4 j e (up he)).2.1 i y hy).1, hcell _ _ ((k4 j e (up he)).2.1 i y hy).2⟩)
            (fun j e he => (k4 j e (up he)).2.2.mono ⟨Nat.le_refl _, fun _ _ _ => ⟨fun h => h, rfl⟩⟩)
          rw [ht] at hv
          exact hv
    | viewOld _ _ _ _ _ b g' n ha hg h0 =>
      rw [hat] at ha
      cases ha
      cases hok <;> exact absurd hg (Nat.lt_irrefl _)
    | viewGone _ _ _ _ _ ha h0 =>
      rw [hat] at ha
      cases ha
      cases hok
  | refL k cs ps hf hl hc ih =>
    intro μ w hi x hx
    have h2 : (flat ba lo)[ba.length + k]? = some (.cells (AV.closes ba.length cs)) := by
      rw [flat, List.getElem?_append_right (by omega), Nat.add_sub_cancel_left, List.getElem?_map, hf]; rfl
    rw [AV.close, Rf.close] at hx
    obtain ⟨m, hm, hok⟩ := hi.bases _ _ h2
    have hlt := get_lt h2
    have hat : Ctx.at ⟨blocks μ, (flat ba lo).length, μ⟩ (.b (ba.length + k)) = some m := by rw [Ctx.at, if_pos hlt]; exact hm
    cases hx with
    | ref _ _ b ha =>
      rw [hat] at ha
      cases ha
      cases hok with
      | cells _ xs t _ k1 k2 k3 =>
        have hb : b < w.heap.size := (Array.getElem?_eq_some_iff.1 k1).1
        have hlen : xs.size = ps.length := by rw [k2, closes_length, hl]
        have hμ : μ.take (flat ba lo).length = μ := by
          have := hi.len
          simp at this
          exact List.take_of_length_le (by omega)
        refine .ptr b 0 ps (fun j => xs[j]?.getD default) (fun h => h) hb (fun j e he => ?_) (fun j e he => ?_)
        · have hj : j < xs.size := by rw [hlen]; exact get_lt he
          have hj2 : j < cs.length := by rw [hl]; exact get_lt he
          have hx : xs[j]? = some xs[j] := Array.getElem?_eq_getElem hj
          rw [hx]
          refine ⟨(k3 j _ ((cs[j]).close ba.length) hx (by rw [closes_get, List.getElem?_eq_getElem hj2]; rfl)).2, ?_⟩
          unfold World.cell?
          rw [k1]
          simp [hx]
        · have hj : j < xs.size := by rw [hlen]; exact get_lt he
          have hj2 : j < cs.length := by rw [hl]; exact get_lt he
          have hx : xs[j]? = some xs[j] := Array.getElem?_eq_getElem hj
          rw [hx]
          have hva := (k3 j _ ((cs[j]).close ba.length) hx (by rw [closes_get, List.getElem?_eq_getElem hj2]; rfl)).1
          rw [hμ] at hva
          exact ih j _ e (List.getElem?_eq_getElem hj2) he μ w hi _ hva
  | refB id ps hf =>
    intro μ w hi x hx
    have h2 : (flat ba lo)[id]? = some (.cells (ps.map .p)) := by
      rw [flat, List.getElem?_append_left (get_lt hf)]; exact hf
    rw [AV.close, Rf.close] at hx
    obtain ⟨m, hm, hok⟩ := hi.bases _ _ h2
    have hlt := get_lt h2
    have hat : Ctx.at ⟨blocks μ, (flat ba lo).length, μ⟩ (.b id) = some m := by rw [Ctx.at, if_pos hlt]; exact hm
    cases hx with
    | ref _ _ b ha =>
      rw [hat] at ha
      cases ha
      cases hok with
      | cells _ xs t _ k1 k2 k3 =>
        have hb : b < w.heap.size := (Array.getElem?_eq_some_iff.1 k1).1
        have hlen : xs.size = ps.length := by rw [k2, List.length_map]
        refine .ptr b 0 ps (fun j => xs[j]?.getD default) (fun h => h) hb (fun j e he => ?_) (fun j e he => ?_)
        · have hj : j < xs.size := by rw [hlen]; exact get_lt he
          have hx : xs[j]? = some xs[j] := Array.getElem?_eq_getElem hj
          rw [hx]
          refine ⟨(k3 j _ (.p e) hx (by rw [List.getElem?_map, he]; rfl)).2, ?_⟩
          unfold World.cell?
          rw [k1]
          simp [hx]
        · have hj : j < xs.size := by rw [hlen]; exact get_lt he
          have hx : xs[j]? = some xs[j] := Array.getElem?_eq_getElem hj
          rw [hx]
          exact (k3 j _ (.p e) hx (by rw [List.getElem?_map, he]; rfl)).1.pv.mono ⟨Nat.le_refl _, fun _ _ _ => ⟨fun h => h, rfl⟩⟩
  | agg cs ps hl hc ih =>
    intro μ w hi x hx
    rw [AV.close] at hx
    cases hx with
    | agg xs _ k1 k2 k3 =>
      rw [closes_length] at k1
      refine .agg xs ps (by rw [k1, hl]) (fun j y p hy hp => ?_) k3
      have hj2 : j < cs.length := by rw [hl]; exact get_lt hp
      exact ih j _ p (List.getElem?_eq_getElem hj2) hp μ w hi y (k2 j y _ hy (by rw [closes_get, List.getElem?_eq_getElem hj2]; rfl))

theorem inv_nil (W : World) : Inv [] W [] [] := ⟨rfl, fun i j m m' b h => by simp at h, fun i o h => by simp at h, fun k o h => by simp at h⟩

theorem Inv.kept {μ : List MI} {w w' : World} {H : List Ob} (h : Inv μ w H []) (hs : w.heap.size ≤ w'.heap.size) (hb : ∀ b, b < w.heap.size → w'.heap[b]? = w.heap[b]?) : Inv μ w' H [] := by
  have st : ∀ M : Nat → Prop, Stays M w M w' := fun M => ⟨hs, fun b h1 h2 => ⟨h2, hb b h1⟩⟩
  refine ⟨h.len, h.apart, fun i o ho => ?_, fun k o ho => by simp at ho⟩
  obtain ⟨m, hm, hok⟩ := h.bases i o ho
  refine ⟨m, hm, ?_⟩
  cases hok with
  | cells b xs t cs k1 k2 k3 => exact .cells b xs t cs ((hb b (Array.getElem?_eq_some_iff.1 k1).1).trans k1) k2 fun j x c hx hc => ⟨(k3 j x c hx hc).1.mono (st _) (.refl _), (k3 j x c hx hc).2⟩
  | buf0 g sz n => exact .buf0 g sz n
  | buf b g n sz xs t es c k1 k2 k3 k4 => exact .buf b g n sz xs t es c ((hb b (Array.getElem?_eq_some_iff.1 k1).1).trans k1) k2 k3 fun j e he => ⟨(k4 j e he).1, (k4 j e he).2.1, (k4 j e he).2.2.mono (st _)⟩
  | map b clock xs es k1 k2 k3 => exact .map b clock xs es ((hb b (Array.getElem?_eq_some_iff.1 k1).1).trans k1) k2 fun j x e hx he => ⟨(k3 j x e hx he).1.mono (st _), (k3 j x e hx he).2.mono (st _)⟩
  | gone => exact .gone

/-- The rows of arguments. -/
inductive Lends (ba lo : List Ob) : List AV → List PV → Prop
  | nil : Lends ba lo [] []
  | cons (a : AV) (p : PV) (as : List AV) (ps : List PV) : Lend ba lo a p → Lends ba lo as ps → Lends ba lo (a :: as) (p :: ps)
theorem Lends.out {ba lo : List Ob} {as : List AV} {ps : List PV} (h : Lends ba lo as ps) : as.length = ps.length ∧ ∀ (j : Nat) (p : PV), ps[j]? = some p → ∃ a, as[j]? = some a ∧ Lend ba lo a p := by
  induction h with
  | nil => exact ⟨rfl, fun j p h => by simp at h⟩
  | cons a p as ps h _ ih =>
    refine ⟨by simp [ih.1], fun j q hq => ?_⟩
    cases j with
    | zero => simp at hq; subst hq; exact ⟨a, rfl, h⟩
    | succ j => exact ih.2 j q (by simpa using hq)

theorem callA_lend {f : Nat} {ba lo : List Ob} {as : List AV} {ps : List PV} {r : PV} (h : pureF P f (ps.map .p) (.p r)) (hr : Flat r) (hl : Lends ba lo as ps) :
    callA P f (AV.closes ba.length as) (flat ba lo) (fun r' H' => r' = .p r ∧ H' = flat ba lo) := by
  obtain ⟨h1, h2⟩ := hl.out
  intro μ w xs hi hx
  have hc := h [] [] w xs (inv_nil w) ⟨by rw [hx.1, closes_length, h1, List.length_map], fun j x a hj ha => by
    rw [List.getElem?_map] at ha
    obtain ⟨p, hp, rfl⟩ := Option.map_eq_some_iff.1 ha
    obtain ⟨a, ha, hla⟩ := h2 j p hp
    refine .p _ _ ((hla.close μ w hi x (hx.2 j x _ hj (by rw [closes_get, ha]; rfl))).mono ⟨Nat.le_refl _, fun b _ _ => ⟨fun ⟨i, m, h, _⟩ => by simp at h, rfl⟩⟩)⟩
  refine Calls.mono' hc ?_
  rintro e w' ⟨v, r', H', μ', rfl, ⟨rfl, rfl⟩, g3, g4, g5⟩
  have hkeep : ∀ b, b < w.heap.size → w'.heap[b]? = w.heap[b]? := fun b hb => (g5.stays.2 b hb fun ⟨i, m, h, _⟩ => by simp at h).2
  exact ⟨v, _, _, μ, rfl, ⟨rfl, rfl⟩, hi.kept g5.stays.1 hkeep, .p _ _ (g4.pv.anywhere hr), g5.os, g5.tape, g5.output, .refl μ, g5.stays.1, fun b hb hm => ⟨hm, hkeep b hb⟩⟩

theorem CallVC.lend {f : Nat} {args : List AV} {ps : List PV} {ba lo : List Ob} {K : AV → List Ob → List Ob → Prop} {r : PV} (h : AD.pureF P f (ps.map .p) (.p r)) (hr : Flat r) (hl : Lends ba lo args ps) (k : K (.p r) ba lo) : CallVC P f args ba lo K :=
  .pure (callA_lend h hr hl) k
end
end Go.Proofs.Ythmlninecfjjgaa.AD

namespace Go.Proofs.Ythmlninecfjjgaa.AD
set_option linter.unusedVariables false
section
variable {P : Program}

/-! ### a callee read in place -/

def resI (fr : FR) (ba lo : List Ob) (rs : List IRes) (K : AV → List Ob → List Ob → Prop) : Prop :=
  ressK fr ba lo rs fun as => match as with
    | [a] => K a ba lo
    | as => mkTupK as fun a => K a ba lo
def endI (f : IF) (K : AV → List Ob → List Ob → Prop) : Exit → FR → List Ob → List Ob → Prop
  | .ret, fr, ba, lo => resI fr ba lo f.res K
  | .normal, fr, ba, lo => resI fr ba lo f.res K
  | _, _, _, _ => False

theorem resI_out {N : Nat} {fn : Func} {irs : List IRes} (hc : compR P fn.results.toList = some irs) {μ : List MI} {w : World} {a : Act} {fr : FR} {ba lo : List Ob} {K : AV → List Ob → List Ob → Prop} (h : resI fr ba lo irs K) (hr : Rel N μ w a fr ba lo) :
    ∃ v r, (results fn a.tmps).run P w = .ok v w ∧ K r ba lo ∧ VA ⟨blocks μ, ba.length, μ⟩ w v r := by
  obtain ⟨as, vs, h1, h2, h3, h4⟩ := ressK_out _ _ hc h hr
  have hrun : (results fn a.tmps).run P w = .ok (if h : vs.toArray.size = 1 then vs.toArray[0] else .tuple vs.toArray) w := by
    rw [results_eq]
    have : fn.results.mapM (resRun a.tmps) = (do let l ← fn.results.toList.mapM (resRun a.tmps); pure l.toArray) := by
      rw [Array.mapM_eq_mapM_toList]
      rfl
    rw [this]
    simp only [Sem.run_bind, h2, Result.andThen, Sem.run_pure]
  split at h1
  · rename_i r
    obtain ⟨v, rfl⟩ := List.length_eq_one_iff.1 h3
    exact ⟨v, r, hrun, h1, h4 0 v r rfl rfl⟩
  · rename_i h8
    obtain ⟨r, h9, hk⟩ := mkTupK_out h1
    have hl : vs.toArray.size ≠ 1 := by
      intro e
      have e' : as.length = 1 := by rw [← h3]; simpa using e
      obtain ⟨x, rfl⟩ := List.length_eq_one_iff.1 e'
      exact h8 x rfl
    rw [dif_neg hl] at hrun
    exact ⟨_, r, hrun, hk, VA.of_tup ⟨by simpa using h3, fun j x c hx hcj => h4 j x c (by simpa using hx) hcj⟩ h9⟩

theorem CallVC.inline {own : List Nat} {f : Nat} {ir : IF} {args : List AV} {ba lo : List Ob} {K : AV → List Ob → List Ob → Prop} (hc : compF P own f = some ir.bare) (h : bif Nat.beq args.length ir.params then W P ir.body (frameOf 0 args) ba lo (endI ir K) else False) : CallVC P f args ba lo K := by
  refine ⟨fun μ w xs hi hx => ?_⟩
  unfold compF at hc
  split at hc
  · cases hc
  · rename_i fn hfn
    split at hc
    · cases hc
    · rename_i c hbody
      split at hc
      · rename_i ic rs hic hrs
        split at hc
        · rename_i hcond
          obtain ⟨hpar, _, hm⟩ := hcond
          have hc := Option.some.inj hc
          have e1 : ic = ir.body.bare := congrArg IF.body hc
          have e2 : rs = ir.res := congrArg IF.res hc
          have e3 : fn.params.size + fn.nfree = ir.params := congrArg IF.params hc
          subst e1
          subst e2
          cases hb : Nat.beq args.length ir.params with
          | false => rw [hb] at h; exact h.elim
          | true =>
            rw [hb] at h
            have hlen : args.length = ir.params := Nat.eq_of_beq_eq_true hb
            have h : W P ir.body (frameOf 0 args) ba lo (endI ir K) := h
            have hsz : xs.size = args.length := hx.1
            have hrel : Rel fn.ntmps μ w { tmps := xs ++ Array.replicate (fn.ntmps - xs.size) undef, defers := [] } (frameOf 0 args) ba lo := by
              refine ⟨hi, by simp; omega, rfl, fun t => ?_⟩
              rw [frameOf_get, if_pos (Nat.zero_le _), Nat.sub_zero]
              simp only [Array.getD_eq_getD_getElem?]
              rcases Nat.lt_or_ge t args.length with ht | ht
              · rw [Array.getElem?_append_left (by omega), Array.getElem?_eq_getElem (by omega), List.getElem?_eq_getElem ht]
                exact hx.2 t _ _ (Array.getElem?_eq_getElem (by omega)) (List.getElem?_eq_getElem ht)
              · rw [List.getElem?_eq_none (by omega)]
                exact .p _ _ (.undef _)
            refine calls_of_wp hfn hbody (wp_mono (W_sound hm ir.body c hic h hrel) fun e a' w' hp => ?_)
            obtain ⟨μ', fr', ba', lo', g1, g2, g3, g4⟩ := hp
            have fin : resI fr' ba' lo' ir.res K → a'.defers = [] ∧ ∃ v, (results fn a'.tmps).run P w' = .ok v w' ∧ ∃ v' r μ'' ba'' lo'', Ending.returned v = .returned v' ∧ VA ⟨blocks μ'', ba.length, μ''⟩ w' v' r ∧ Inv μ'' w' ba'' lo'' ∧ Le μ w μ'' w' ∧ ba''.length = ba.length ∧ K r ba'' lo'' := fun g1 => by
              obtain ⟨v, r, k1, k2, k3⟩ := resI_out hrs g1 g2
              exact ⟨g2.defers, v, k1, v, r, μ', ba', lo', rfl, by rw [← g4]; exact k3, g2.inv, g3, g4, k2⟩
            cases e with
            | normal => exact fin g1
            | ret => exact fin g1
            | exit id => exact g1.elim
            | goto l => exact g1.elim
            | panic ch => exact g1.elim
            | outgrown => exact g1.elim
        · cases hc
      · cases hc

/-! ### a call seen from nowhere: no objects but its own -/

theorem pureF_nil {f : Nat} {ps : List PV} {r : PV} (h : callA P f (ps.map .p) [] fun r' H' => r' = .p r ∧ H' = []) (hr : Flat r) : pureF P f (ps.map .p) (.p r) := by
  intro H μ w xs hi hx
  have hc := h [] w xs (inv_nil w) ⟨hx.1, fun j x a hj ha => by
    have := hx.2 j x a hj ha
    rw [List.getElem?_map] at ha
    obtain ⟨p, hp, rfl⟩ := Option.map_eq_some_iff.1 ha
    exact .p _ _ (this.pv.mono ⟨Nat.le_refl _, fun b _ _ => ⟨fun ⟨i, m, h, _⟩ => by simp at h, rfl⟩⟩)⟩
  refine Calls.mono' hc ?_
  rintro e w' ⟨v, r', H', μ', rfl, ⟨rfl, rfl⟩, g3, g4, g5⟩
  have hkeep : ∀ b, b < w.heap.size → w'.heap[b]? = w.heap[b]? := fun b hb => (g5.stays.2 b hb fun ⟨i, m, h, _⟩ => by simp at h).2
  exact ⟨v, _, _, μ, rfl, ⟨rfl, rfl⟩, hi.kept g5.stays.1 hkeep, .p _ _ (g4.pv.anywhere hr), g5.os, g5.tape, g5.output, .refl μ, g5.stays.1, fun b hb hm => ⟨hm, hkeep b hb⟩⟩

theorem pureF_nil_of {own : List Nat} {f : Nat} {ir : IF} {ps : List PV} {r : PV} (hc : compF P own f = some ir.bare) (hr : Flat r) (h : fnV P ir (ps.map .p) [] fun r' H' => r' = .p r ∧ H' = []) : pureF P f (ps.map .p) (.p r) :=
  pureF_nil (sound hc h) hr

/-! ### a list that is nil yet is an object without cells -/

theorem CallVC.ghost {f : Nat} {args : List AV} {ba lo : List Ob} {K : AV → List Ob → List Ob → Prop} (m j sz : Nat) {cs : List AV} (h1 : lo[m]? = some (.cells cs)) (h2 : cs[j]? = some (.p .nils))
    (h : CallVC P f args ba (lo.set m (.cells (cs.set j (.view (.l lo.length) 0 sz 0))) ++ [.buf 0 sz []]) K) : CallVC P f args ba lo K := by
  refine ⟨fun μ w xs hi hx => ?_⟩
  have hblk : ∀ b, blocks (μ ++ [.buf none 0 0]) b → blocks μ b := by
    rintro b ⟨i, m', hm, hb⟩
    rcases Nat.lt_or_ge i μ.length with hl | hl
    · rw [List.getElem?_append_left hl] at hm; exact ⟨i, m', hm, hb⟩
    · rw [List.getElem?_append_right hl] at hm
      have : i - μ.length = 0 := by have := get_lt hm; simp at this; omega
      rw [this] at hm
      cases hm
      cases hb
  have hst : Stays (blocks μ) w (blocks (μ ++ [.buf none 0 0])) w := ⟨Nat.le_refl _, fun b _ hb => ⟨fun hc => hb (hblk b hc), rfl⟩⟩
  have hab : Above μ (μ ++ [.buf none 0 0]) := fun i m' hm => ⟨m', by rw [List.getElem?_append_left (get_lt hm)]; exact hm, .refl _⟩
  have hle : ba.length ≤ μ.length := by rw [hi.len]; omega
  have htk : (μ ++ [MI.buf none 0 0]).take ba.length = μ.take ba.length := List.take_append_of_le_length hle
  have obm : ∀ {m : MI} {o : Ob} {μ1 μ2 : List MI}, Above μ1 μ2 → ObOk ⟨blocks μ, ba.length, μ1⟩ w m o → ObOk ⟨blocks (μ ++ [.buf none 0 0]), ba.length, μ2⟩ w m o := fun ha ho => ho.mono hst ha fun b _ => rfl
  have hml := get_lt h1
  have hi2 : Inv (μ ++ [.buf none 0 0]) w ba (lo.set m (.cells (cs.set j (.view (.l lo.length) 0 sz 0))) ++ [.buf 0 sz []]) := by
    refine ⟨by simp [hi.len]; omega, fun a c m1 m2 b g1 g2 g3 g4 => ?_, fun i o ho => ?_, fun k o ho => ?_⟩
    · have lt : ∀ {a : Nat} {m1 : MI}, (μ ++ [.buf none 0 0])[a]? = some m1 → m1.block? = some b → μ[a]? = some m1 := fun {a m1} g1 g3 => by
        rcases Nat.lt_or_ge a μ.length with hl | hl
        · rwa [List.getElem?_append_left hl] at g1
        · rw [List.getElem?_append_right hl] at g1
          have : a - μ.length = 0 := by have := get_lt g1; simp at this; omega
          rw [this] at g1
          cases g1
          cases g3
      exact hi.apart a c m1 m2 b (lt g1 g3) (lt g2 g4) g3 g4
    · obtain ⟨m1, g1, g2⟩ := hi.bases i o ho
      refine ⟨m1, by rw [List.getElem?_append_left (get_lt g1)]; exact g1, ?_⟩
      rw [htk]
      exact obm (.refl _) g2
    · rcases Nat.lt_or_ge k lo.length with hk | hk
      · rw [List.getElem?_append_left (by simpa using hk), List.getElem?_set] at ho
        by_cases hkm : m = k
        · subst hkm
          rw [if_pos rfl, if_pos hml] at ho
          cases ho
          obtain ⟨m1, g1, g2⟩ := hi.locs m _ h1
          refine ⟨m1, by rw [List.getElem?_append_left (get_lt g1)]; exact g1, ?_⟩
          cases obm hab g2 with
          | cells b ys t _ k1 k2 k3 =>
            refine .cells b ys t _ k1 (by simpa using k2) fun i x c hx hc => ?_
            rw [List.getElem?_set] at hc
            by_cases hij : j = i
            · subst hij
              rw [if_pos rfl, if_pos (get_lt h2)] at hc
              cases hc
              have hv := k3 j x _ hx h2
              refine ⟨?_, hv.2⟩
              have hx0 : x = .slice none 0 0 := by
                have := hv.1.pv
                cases this; rfl
              rw [hx0]
              exact .view0 _ _ _ 0 (by simp only [Ctx.at]; rw [← hi.len, List.getElem?_append_right (Nat.le_refl _), Nat.sub_self]; rfl)
            · rw [if_neg hij] at hc
              exact k3 i x c hx hc
        · rw [if_neg hkm] at ho
          obtain ⟨m1, g1, g2⟩ := hi.locs k o ho
          exact ⟨m1, by rw [List.getElem?_append_left (get_lt g1)]; exact g1, obm hab g2⟩
      · rw [List.getElem?_append_right (by simpa using hk)] at ho
        have hk2 : k = lo.length := by have := get_lt ho; simp at this; omega
        subst hk2
        simp at ho
        subst ho
        exact ⟨.buf none 0 0, by rw [← hi.len, List.getElem?_append_right (Nat.le_refl _), Nat.sub_self]; rfl, .buf0 _ _ _⟩
  refine (h.out (μ ++ [.buf none 0 0]) w xs hi2 ⟨hx.1, fun j x a hj ha => (hx.2 j x a hj ha).mono hst hab⟩).mono fun e w' hw => ?_
  obtain ⟨v, r, μ', ba', lo', g1, g2, g3, g4, g5, g6⟩ := hw
  exact ⟨v, r, μ', ba', lo', g1, g2, g3, ⟨g4.os, g4.tape, g4.output, hab.trans g4.above, hst.trans g4.stays⟩, g5, g6⟩

end
end Go.Proofs.Ythmlninecfjjgaa.AD

namespace Go.Proofs.Ythmlninecfjjgaa.AD
set_option linter.unusedVariables false
section
variable {P : Program}

mutual
def AV.ren (g : Rf → Rf) : AV → AV
  | .p v => .p v
  | .ref r o => .ref (g r) o
  | .view r a sz len => .view (g r) a sz len
  | .elt r a sz i o => .elt (g r) a sz i o
  | .mapr r => .mapr (g r)
  | .clos f as bs => .clos f (AV.rens g as) (AV.rens g bs)
  | .agg cs => .agg (AV.rens g cs)
  | .tup cs => .tup (AV.rens g cs)
def AV.rens (g : Rf → Rf) : List AV → List AV
  | [] => []
  | a :: r => AV.ren g a :: AV.rens g r
end
theorem rens_map (g : Rf → Rf) : ∀ l, AV.rens g l = l.map (AV.ren g)
  | [] => by rw [AV.rens]; rfl
  | a :: r => by rw [AV.rens, rens_map g r]; rfl
theorem rens_get (g : Rf → Rf) (l : List AV) (j : Nat) : (AV.rens g l)[j]? = (l[j]?).map (AV.ren g) := by rw [rens_map, List.getElem?_map]
theorem rens_length (g : Rf → Rf) (l : List AV) : (AV.rens g l).length = l.length := by rw [rens_map, List.length_map]
def Ob.ren (g : Rf → Rf) : Ob → Ob
  | .cells cs => .cells (AV.rens g cs)
  | o => o

theorem VP.less {M M' : Nat → Prop} {w : World} (hM : ∀ b, ¬ M b → ¬ M' b) {v : Value} {e : PV} (h : VP M w v e) : VP M' w v e := h.mono ⟨Nat.le_refl _, fun b _ hb => ⟨hM b hb, rfl⟩⟩

theorem VA.ren {Γ Γ' : Ctx} {w : World} {g : Rf → Rf} (hM : ∀ b, ¬ Γ.M b → ¬ Γ'.M b) (hat : ∀ r m, Γ.at r = some m → Γ'.at (g r) = some m) {v : Value} {a : AV} (h : VA Γ w v a) : VA Γ' w v (a.ren g) := by
  induction h with
  | p v e h => rw [AV.ren]; exact .p v e (h.less hM)
  | ref r off b h => rw [AV.ren]; exact .ref _ off b (hat _ _ h)
  | view0 r g' sz n h => rw [AV.ren]; exact .view0 _ g' sz n (hat _ _ h)
  | view r g' sz n b len cap h hl hc => rw [AV.ren]; exact .view _ g' sz n b len cap (hat _ _ h) hl hc
  | viewOld v r g' sz len b g2 n h hg h0 => rw [AV.ren]; exact .viewOld v _ g' sz len b g2 n (hat _ _ h) hg h0
  | viewGone v r g' sz len h h0 => rw [AV.ren]; exact .viewGone v _ g' sz len (hat _ _ h) h0
  | elt r g' sz n b idx off h => rw [AV.ren]; exact .elt _ g' sz n b idx off (hat _ _ h)
  | eltOld v r g' sz idx off b g2 n h hg h0 => rw [AV.ren]; exact .eltOld v _ g' sz idx off b g2 n (hat _ _ h) hg h0
  | eltGone v r g' sz idx off h h0 => rw [AV.ren]; exact .eltGone v _ g' sz idx off (hat _ _ h) h0
  | mapr r b h => rw [AV.ren]; exact .mapr _ b (hat _ _ h)
  | maprGone v r h h0 => rw [AV.ren]; exact .maprGone v _ (hat _ _ h) h0
  | clos f xs ys as bs h1 h2 _ _ ih1 ih2 =>
    rw [AV.ren]
    exact .clos f xs ys _ _ (by rw [rens_length]; exact h1) (by rw [rens_length]; exact h2) (fun j x c hx hc => by
      rw [rens_get] at hc
      obtain ⟨c', hc', rfl⟩ := map_some hc
      exact ih1 j x c' hx hc') (fun j x c hx hc => by
      rw [rens_get] at hc
      obtain ⟨c', hc', rfl⟩ := map_some hc
      exact ih2 j x c' hx hc')
  | agg xs cs h1 _ h3 ih =>
    rw [AV.ren]
    exact .agg xs _ (by rw [rens_length]; exact h1) (fun j x c hx hc => by
      rw [rens_get] at hc
      obtain ⟨c', hc', rfl⟩ := map_some hc
      exact ih j x c' hx hc') h3
  | tup xs cs h1 _ ih =>
    rw [AV.ren]
    exact .tup xs _ (by rw [rens_length]; exact h1) (fun j x c hx hc => by
      rw [rens_get] at hc
      obtain ⟨c', hc', rfl⟩ := map_some hc
      exact ih j x c' hx hc')

theorem ObOk.ren {Γ Γ' : Ctx} {w : World} {g : Rf → Rf} (hM : ∀ b, ¬ Γ.M b → ¬ Γ'.M b) (hat : ∀ r m, Γ.at r = some m → Γ'.at (g r) = some m) {m : MI} {o : Ob} (h : ObOk Γ w m o) : ObOk Γ' w m (o.ren g) := by
  cases h with
  | cells b xs t cs a1 a2 a3 =>
    exact .cells b xs t _ a1 (by rw [rens_length]; exact a2) fun j x c hx hc => by
      rw [rens_get] at hc
      obtain ⟨c', hc', rfl⟩ := map_some hc
      exact ⟨(a3 j x c' hx hc').1.ren hM hat, (a3 j x c' hx hc').2⟩
  | buf0 g sz n => exact .buf0 g sz n
  | buf b g n sz xs t es c a1 a2 a3 a4 => exact .buf b g n sz xs t es c a1 a2 a3 fun j e he => ⟨(a4 j e he).1, (a4 j e he).2.1, (a4 j e he).2.2.less hM⟩
  | map b clock xs es a1 a2 a3 => exact .map b clock xs es a1 a2 fun j x e hx he => ⟨(a3 j x e hx he).1.less hM, (a3 j x e hx he).2.less hM⟩
  | gone => exact .gone

/-! ### an order -/

def posN (k : Nat) : List Nat → Nat
  | [] => 0
  | a :: r => bif Nat.beq a k then 0 else posN k r + 1
def atN (j : Nat) : List Nat → Nat
  | [] => 0
  | a :: r => match j with
    | 0 => a
    | j + 1 => atN j r
def posOf (π : List Nat) : Rf → Rf
  | .l k => .b (posN k π)
  | r => r
def backOf (π : List Nat) : Rf → Rf
  | .b j => .l (atN j π)
  | r => r

theorem posN_get {k : Nat} : ∀ {π : List Nat}, k ∈ π → π[posN k π]? = some k
  | [], h => by cases h
  | a :: r, h => by
    simp only [posN]
    cases hb : Nat.beq a k with
    | true => simp only [cond_true]; rw [Nat.eq_of_beq_eq_true hb]; rfl
    | false =>
      simp only [cond_false]
      have : k ∈ r := by
        cases h with
        | head => simp at hb
        | tail _ h => exact h
      simpa using posN_get this
theorem posN_at : ∀ {π : List Nat}, π.Nodup → ∀ {j i : Nat}, π[j]? = some i → posN i π = j
  | [], _, j, i, h => by simp at h
  | a :: r, hn, j, i, h => by
    rw [List.nodup_cons] at hn
    simp only [posN]
    cases j with
    | zero => simp at h; subst h; simp
    | succ j =>
      have h : r[j]? = some i := by simpa using h
      have hne : ¬ a = i := fun e => hn.1 (by rw [e]; exact List.mem_of_getElem? h)
      rw [beq_ne hne]
      simp only [cond_false]
      rw [posN_at hn.2 h]
theorem atN_get : ∀ {π : List Nat} {j i : Nat}, π[j]? = some i → atN j π = i
  | [], j, i, h => by simp at h
  | a :: r, j, i, h => by
    cases j with
    | zero => simp at h; subst h; rfl
    | succ j => exact atN_get (π := r) (by simpa using h)

theorem CallVC.meth {f : Nat} {args args' : List AV} {lo H0 H1 lo' : List Ob} {K : AV → List Ob → List Ob → Prop} {r1 : AV} (π : List Nat) (h : callA P f args' H0 fun r H' => r = r1 ∧ H' = H1)
    (ea : AV.rens (posOf π) args = args') (eh : (π.map fun i => (lo.getD i .gone).ren (posOf π)) = H0) (el : ((List.range lo.length).map fun i => (H1.getD (posN i π) .gone).ren (backOf π)) = lo') (hl : H1.length = lo.length)
    (p1 : π.Nodup) (p2 : ∀ k, k < lo.length → k ∈ π) (p3 : π.length = lo.length) (k : K (r1.ren (backOf π)) [] lo') : CallVC P f args [] lo K := by
  subst ea; subst eh; subst el
  refine ⟨fun μ w xs hi hx => ?_⟩
  have hn : μ.length = lo.length := by rw [hi.len]; simp
  have p4 : ∀ i, i ∈ π → i < lo.length := by
    intro i him
    rcases Nat.lt_or_ge i lo.length with h | h
    · exact h
    · -- one more than fits
      have hsub : (i :: List.range lo.length).Nodup := by
        rw [List.nodup_cons]
        exact ⟨by simp; exact h, List.nodup_range⟩
      have hle : (i :: List.range lo.length).length ≤ π.length := hsub.length_le_of_subset fun x hx => by
        cases hx with
        | head => exact him
        | tail _ hx => exact p2 x (List.mem_range.1 hx)
      simp at hle
      omega
  -- the places in the new order
  have get : ∀ (j : Nat) (m : MI), (π.map fun i => μ.getD i .gone)[j]? = some m ↔ ∃ i, π[j]? = some i ∧ μ[i]? = some m := fun j m => by
    rw [List.getElem?_map]
    constructor
    · intro h
      obtain ⟨i, h1, h2⟩ := map_some h
      refine ⟨i, h1, ?_⟩
      have hlt : i < μ.length := by rw [hn]; exact p4 i (List.mem_of_getElem? h1)
      rw [List.getElem?_eq_getElem hlt] at *
      simp [List.getD, hlt] at h2
      rw [h2]
    · rintro ⟨i, h1, h2⟩
      rw [h1]
      simp [List.getD, h2]
  have back : ∀ (i : Nat) (m : MI), μ[i]? = some m → (π.map fun i => μ.getD i .gone)[posN i π]? = some m := fun i m h => by
    rw [get]
    exact ⟨i, posN_get (p2 i (by rw [← hn]; exact get_lt h)), h⟩
  generalize hμ : (π.map fun i => μ.getD i .gone) = ν at get back
  have hνl : ν.length = lo.length := by rw [← hμ, List.length_map, p3]
  have hbk : ∀ b, blocks ν b ↔ blocks μ b := fun b => by
    constructor
    · rintro ⟨j, m, h1, h2⟩
      obtain ⟨i, _, h3⟩ := (get j m).1 h1
      exact ⟨i, m, h3, h2⟩
    · rintro ⟨i, m, h1, h2⟩
      exact ⟨_, m, back i m h1, h2⟩
  have hlen0 : (π.map fun i => (lo.getD i .gone).ren (posOf π)).length = lo.length := by rw [List.length_map, p3]
  have hat : ∀ r m, Ctx.at ⟨blocks μ, ([] : List Ob).length, μ⟩ r = some m → Ctx.at ⟨blocks ν, lo.length, ν⟩ (posOf π r) = some m := fun r m h => by
    cases r with
    | l k =>
      simp only [Ctx.at, List.length_nil, Nat.zero_add] at h
      simp only [posOf, Ctx.at]
      have hb := back k m h
      rw [if_pos (by rw [← hνl]; exact get_lt hb)]
      exact hb
    | b id => simp only [Ctx.at, List.length_nil] at h; rw [if_neg (Nat.not_lt_zero _)] at h; cases h
  have hM : ∀ b, ¬ blocks μ b → ¬ blocks ν b := fun b h h2 => h ((hbk b).1 h2)
  have hi2 : Inv ν w (π.map fun i => (lo.getD i .gone).ren (posOf π)) [] := by
    refine ⟨by rw [hνl, hlen0]; rfl, fun a c m m' b g1 g2 g3 g4 => ?_, fun j o ho => ?_, fun k o ho => by simp at ho⟩
    · obtain ⟨i1, a1, a2⟩ := (get a m).1 g1
      obtain ⟨i2, b1, b2⟩ := (get c m').1 g2
      have := hi.apart i1 i2 m m' b a2 b2 g3 g4
      subst this
      rw [← posN_at p1 a1, ← posN_at p1 b1]
    · rw [List.getElem?_map] at ho
      obtain ⟨i, h1, rfl⟩ := map_some ho
      have hlt := p4 i (List.mem_of_getElem? h1)
      obtain ⟨m, g1, g2⟩ := hi.locs i lo[i] (List.getElem?_eq_getElem hlt)
      simp only [List.length_nil, Nat.zero_add] at g1
      refine ⟨m, (get j m).2 ⟨i, h1, g1⟩, ?_⟩
      have e : lo.getD i .gone = lo[i] := by simp [List.getD, hlt]
      rw [e, hlen0, List.take_of_length_le (by omega)]
      exact g2.ren hM hat
  refine (h ν w xs hi2 ⟨by rw [rens_length]; exact hx.1, fun j x a hj ha => ?_⟩).mono fun e w' hw => ?_
  · rw [rens_get] at ha
    obtain ⟨a', ha', rfl⟩ := map_some ha
    rw [hlen0]
    exact (hx.2 j x a' hj ha').ren hM hat
  · obtain ⟨v, r, H', ν', he, ⟨rfl, rfl⟩, g3, g4, g5⟩ := hw
    have hν'l : ν'.length = lo.length := by have := g3.len; simp at this; omega
    have rng : ∀ {i : Nat}, (List.range lo.length)[i]? = if i < lo.length then some i else none := fun {i} => by
      by_cases hl : i < lo.length
      · rw [if_pos hl, List.getElem?_range hl]
      · rw [if_neg hl, List.getElem?_eq_none (by simp; omega)]
    have get2 : ∀ (i : Nat) (m : MI), ((List.range lo.length).map fun i => ν'.getD (posN i π) .gone)[i]? = some m ↔ i < lo.length ∧ ν'[posN i π]? = some m := fun i m => by
      rw [List.getElem?_map, rng]
      by_cases hl : i < lo.length
      · have hp : posN i π < ν'.length := by rw [hν'l, ← p3]; exact get_lt (posN_get (p2 i hl))
        simp [hl, List.getD, hp]
      · simp [hl]
    generalize hμ3 : ((List.range lo.length).map fun i => ν'.getD (posN i π) .gone) = μ3 at get2
    have hμ3l : μ3.length = lo.length := by rw [← hμ3]; simp
    have fwd : ∀ (j : Nat) (m : MI), ν'[j]? = some m → ∃ i, π[j]? = some i ∧ μ3[i]? = some m := fun j m h => by
      have hj : j < π.length := by rw [p3, ← hν'l]; exact get_lt h
      have h1 : π[j]? = some π[j] := List.getElem?_eq_getElem hj
      refine ⟨_, h1, (get2 _ m).2 ⟨p4 _ (List.getElem_mem _), ?_⟩⟩
      rw [posN_at p1 h1]
      exact h
    have hbk3 : ∀ b, blocks μ3 b ↔ blocks ν' b := fun b => by
      constructor
      · rintro ⟨i, m, h1, h2⟩
        exact ⟨_, m, ((get2 i m).1 h1).2, h2⟩
      · rintro ⟨j, m, h1, h2⟩
        obtain ⟨i, _, h3⟩ := fwd j m h1
        exact ⟨i, m, h3, h2⟩
    have hM3 : ∀ b, ¬ blocks ν' b → ¬ blocks μ3 b := fun b h h2 => h ((hbk3 b).1 h2)
    have hat3 : ∀ (X : List MI), (∀ (j : Nat) (m : MI), X[j]? = some m → ν'[j]? = some m) → ∀ r m, Ctx.at ⟨blocks ν', H'.length, X⟩ r = some m → Ctx.at ⟨blocks μ3, ([] : List Ob).length, μ3⟩ (backOf π r) = some m := fun X hX r m h => by
      cases r with
      | l k =>
        simp only [Ctx.at] at h
        have := get_lt (hX _ _ h)
        omega
      | b j =>
        simp only [Ctx.at] at h
        split at h
        · obtain ⟨i, h1, h2⟩ := fwd j m (hX _ _ h)
          simp only [backOf, Ctx.at, List.length_nil, Nat.zero_add]
          rw [atN_get h1]
          exact h2
        · cases h
    refine ⟨v, _, μ3, [], _, he, g4.ren hM3 (hat3 ν' fun _ _ h => h), ?_, ⟨g5.os, g5.tape, g5.output, fun i m hm => ?_, g5.stays.1, fun b hb hm => ?_⟩, rfl, k⟩
    · refine ⟨by rw [hμ3l]; simp, fun a c m m' b g1 g2 h3 h4 => ?_, fun i o ho => by simp at ho, fun i o ho => ?_⟩
      · obtain ⟨a1, a2⟩ := (get2 a m).1 g1
        obtain ⟨b1, b2⟩ := (get2 c m').1 g2
        have e1 := g3.apart _ _ m m' b a2 b2 h3 h4
        have e2 := posN_get (p2 a a1)
        have e3 := posN_get (p2 c b1)
        rw [e1, e3] at e2
        exact (Option.some.inj e2).symm
      · rw [List.getElem?_map, rng] at ho
        by_cases hl2 : i < lo.length
        · rw [if_pos hl2] at ho
          simp only [Option.map_some, Option.some.injEq] at ho
          subst ho
          have hp : posN i π < H'.length := by rw [hl, ← p3]; exact get_lt (posN_get (p2 i hl2))
          obtain ⟨m, k1, k2⟩ := g3.bases (posN i π) H'[posN i π] (List.getElem?_eq_getElem hp)
          refine ⟨m, by simp only [List.length_nil, Nat.zero_add]; exact (get2 i m).2 ⟨hl2, k1⟩, ?_⟩
          have e : H'.getD (posN i π) .gone = H'[posN i π] := by simp [List.getD, hp]
          rw [e]
          refine k2.ren hM3 (hat3 _ fun j m h => ?_)
          rw [List.getElem?_take] at h
          split at h
          · exact h
          · cases h
        · rw [if_neg hl2] at ho
          cases ho
    · obtain ⟨m', h1, h2⟩ := g5.above _ m (back i m hm)
      exact ⟨m', (get2 i m').2 ⟨by rw [← hn]; exact get_lt hm, h1⟩, h2⟩
    · have hm2 : ¬ blocks ν b := fun h => hm ((hbk b).1 h)
      obtain ⟨h1, h2⟩ := g5.stays.2 b hb hm2
      exact ⟨hM3 b h1, h2⟩

end
end Go.Proofs.Ythmlninecfjjgaa.AD

namespace Go.Proofs.Ythmlninecfjjgaa.AD
set_option linter.unusedVariables false
section
variable {P : Program}

/-- A function called on objects of the caller's own, which stand first; it answers a plain value and leaves them so. -/
def Meth (P : Program) (f : Nat) (args : List AV) (os : List Ob) (r : PV) (os' : List Ob) : Prop := ∀ rest, callA P f args (os ++ rest) fun r' H' => r' = .p r ∧ H' = os' ++ rest

theorem Meth.of {own : List Nat} {f : Nat} {ir : IF} {args : List AV} {os os' : List Ob} {r : PV} (hc : compF P own f = some ir.bare) (h : ∀ rest, fnV P ir args (os ++ rest) fun r' H' => r' = .p r ∧ H' = os' ++ rest) : Meth P f args os r os' :=
  fun rest => sound hc (h rest)

def AV.clB (n : Nat) : AV → Bool
  | .p _ => true
  | .ref (.b i) _ => Nat.blt i n
  | .view (.b i) _ _ _ => Nat.blt i n
  | .elt (.b i) _ _ _ _ => Nat.blt i n
  | .mapr (.b i) => Nat.blt i n
  | _ => false
def avsCl (n : Nat) : List AV → Bool
  | [] => true
  | a :: r => a.clB n && avsCl n r
def obsCl (n : Nat) : List Ob → Bool
  | [] => true
  | .cells cs :: r => avsCl n cs && obsCl n r
  | _ :: r => obsCl n r

theorem blt_lt {i n : Nat} (h : Nat.blt i n = true) : i < n := by
  have : Nat.ble (i + 1) n = true := h
  exact Nat.le_of_ble_eq_true this

theorem clB_low {n m : Nat} (hm : n ≤ m) {a : AV} (h : a.clB n = true) : AV.Low m a ∧ a.lowL 0 = true := by
  unfold AV.clB at h
  split at h
  · exact ⟨.p _, rfl⟩
  · exact ⟨.ref _ _ (Nat.lt_of_lt_of_le (blt_lt h) hm), rfl⟩
  · exact ⟨.view _ _ _ _ (Nat.lt_of_lt_of_le (blt_lt h) hm), rfl⟩
  · exact ⟨.elt _ _ _ _ _ (Nat.lt_of_lt_of_le (blt_lt h) hm), rfl⟩
  · exact ⟨.mapr _ (Nat.lt_of_lt_of_le (blt_lt h) hm), rfl⟩
  · cases h
theorem avsCl_low {n m : Nat} (hm : n ≤ m) : ∀ {l : List AV}, avsCl n l = true → ∀ a, a ∈ l → AV.Low m a ∧ a.lowL 0 = true
  | [], _, a, h => by cases h
  | b :: r, h, a, ha => by
    simp only [avsCl, Bool.and_eq_true] at h
    cases ha with
    | head => exact clB_low hm h.1
    | tail _ ha => exact avsCl_low hm h.2 a ha
theorem obsCl_low {n m : Nat} (hm : n ≤ m) : ∀ {l : List Ob}, obsCl n l = true → ∀ o, o ∈ l → o.LowB m
  | [], _, o, h => by cases h
  | o1 :: r, h, o, ho => by
    have hr : obsCl n r = true := by cases o1 <;> simp only [obsCl, Bool.and_eq_true] at h <;> first | exact h.2 | exact h
    cases ho with
    | head =>
      cases o1 <;> first | trivial | skip
      simp only [obsCl, Bool.and_eq_true] at h
      exact avsCl_low hm h.1
    | tail _ ho => exact obsCl_low hm hr o ho

/-- From one such function to another, on the same objects. -/
theorem CallVC.same {f : Nat} {args : List AV} {os os' rest lo : List Ob} {K : AV → List Ob → List Ob → Prop} {r : PV} (h : Meth P f args os r os') (ha : AV.closes (os ++ rest).length args = args) (hl : os'.length = os.length) (hc : obsCl os.length os' = true) (k : K (.p r) (os' ++ rest) lo) : CallVC P f args (os ++ rest) lo K := by
  have hlen : (os' ++ rest).length = (os ++ rest).length := by simp [hl]
  refine CallX.to ⟨?_⟩
  rw [ha]
  have e1 : flat (os ++ rest) lo = os ++ (rest ++ lo.map (Ob.close (os ++ rest).length)) := by rw [flat, List.append_assoc]
  rw [e1]
  refine (h _).mono fun r' H' ⟨h1, h2⟩ => ⟨.p r, os' ++ rest, lo, by rw [h1, AV.close], .p _, by rw [h2, List.append_assoc], hlen, fun o ho => ?_, fun o ho => .inl ho, k⟩
  rw [List.mem_append] at ho
  rcases ho with ho | ho
  · exact .inr (obsCl_low (by simp) hc o ho)
  · exact .inl (List.mem_append.2 (.inr ho))

/-- Where the objects are local ones, in another order. -/
theorem CallVC.methM {f : Nat} {args args' : List AV} {lo os os' lo' : List Ob} {K : AV → List Ob → List Ob → Prop} {r : PV} (π : List Nat) (h : Meth P f args' os r os')
    (ea : AV.rens (posOf π) args = args') (eo : (π.map fun i => (lo.getD i .gone).ren (posOf π)).take os.length = os) (ol : os'.length = os.length)
    (el : ((List.range lo.length).map fun i => ((os' ++ (π.map fun i => (lo.getD i .gone).ren (posOf π)).drop os.length).getD (posN i π) .gone).ren (backOf π)) = lo')
    (p1 : π.Nodup) (p2 : ∀ k, k < lo.length → k ∈ π) (p3 : π.length = lo.length) (k : K (.p r) [] lo') : CallVC P f args [] lo K := by
  have hd : (π.map fun i => (lo.getD i .gone).ren (posOf π)) = os ++ (π.map fun i => (lo.getD i .gone).ren (posOf π)).drop os.length := by
    conv => lhs; rw [← List.take_append_drop os.length (π.map fun i => (lo.getD i .gone).ren (posOf π)), eo]
  have hlen : os.length + ((π.map fun i => (lo.getD i .gone).ren (posOf π)).drop os.length).length = lo.length := by
    have := congrArg List.length hd
    rw [List.length_map, List.length_append] at this
    omega
  refine CallVC.meth (H0 := os ++ (π.map fun i => (lo.getD i .gone).ren (posOf π)).drop os.length) π (h _) ea hd el (by rw [List.length_append, ol]; exact hlen) p1 p2 p3 (by rw [AV.ren]; exact k)

/-- The same, where what is answered names one of the objects. -/
def MethV (P : Program) (f : Nat) (args : List AV) (os : List Ob) (r : AV) (os' : List Ob) : Prop := ∀ rest, callA P f args (os ++ rest) fun r' H' => r' = r ∧ H' = os' ++ rest

theorem MethV.of {own : List Nat} {f : Nat} {ir : IF} {args : List AV} {os os' : List Ob} {r : AV} (hc : compF P own f = some ir.bare) (h : ∀ rest, fnV P ir args (os ++ rest) fun r' H' => r' = r ∧ H' = os' ++ rest) : MethV P f args os r os' :=
  fun rest => sound hc (h rest)

theorem CallVC.methV {f : Nat} {args args' : List AV} {lo os os' lo' : List Ob} {K : AV → List Ob → List Ob → Prop} {r : AV} (π : List Nat) (h : MethV P f args' os r os')
    (ea : AV.rens (posOf π) args = args') (eo : (π.map fun i => (lo.getD i .gone).ren (posOf π)).take os.length = os) (ol : os'.length = os.length)
    (el : ((List.range lo.length).map fun i => ((os' ++ (π.map fun i => (lo.getD i .gone).ren (posOf π)).drop os.length).getD (posN i π) .gone).ren (backOf π)) = lo')
    (p1 : π.Nodup) (p2 : ∀ k, k < lo.length → k ∈ π) (p3 : π.length = lo.length) (k : K (r.ren (backOf π)) [] lo') : CallVC P f args [] lo K := by
  have hd : (π.map fun i => (lo.getD i .gone).ren (posOf π)) = os ++ (π.map fun i => (lo.getD i .gone).ren (posOf π)).drop os.length := by
    conv => lhs; rw [← List.take_append_drop os.length (π.map fun i => (lo.getD i .gone).ren (posOf π)), eo]
  have hlen : os.length + ((π.map fun i => (lo.getD i .gone).ren (posOf π)).drop os.length).length = lo.length := by
    have := congrArg List.length hd
    rw [List.length_map, List.length_append] at this
    omega
  exact CallVC.meth (H0 := os ++ (π.map fun i => (lo.getD i .gone).ren (posOf π)).drop os.length) π (h _) ea hd el (by rw [List.length_append, ol]; exact hlen) p1 p2 p3 k

/-- The same two, with everything told. -/
theorem CallVC.methM' {f : Nat} {args args' : List AV} {lo os os' : List Ob} {K : AV → List Ob → List Ob → Prop} {r : PV} (π : List Nat) (n : Nat) (lo' : List Ob) (h : Meth P f args' os r os') (hn : lo.length = n)
    (ea : AV.rens (posOf π) args = args') (eo : (π.map fun i => (lo.getD i .gone).ren (posOf π)).take os.length = os) (ol : os'.length = os.length)
    (el : ((List.range n).map fun i => ((os' ++ (π.map fun i => (lo.getD i .gone).ren (posOf π)).drop os.length).getD (posN i π) .gone).ren (backOf π)) = lo')
    (p1 : π.Nodup) (p2 : ∀ k, k < n → k ∈ π) (p3 : π.length = n) (k : K (.p r) [] lo') : CallVC P f args [] lo K := by
  subst hn
  exact CallVC.methM π h ea eo ol el p1 p2 p3 k
theorem CallVC.methV' {f : Nat} {args args' : List AV} {lo os os' : List Ob} {K : AV → List Ob → List Ob → Prop} {r : AV} (π : List Nat) (n : Nat) (lo' : List Ob) (r' : AV) (h : MethV P f args' os r os') (hn : lo.length = n)
    (ea : AV.rens (posOf π) args = args') (eo : (π.map fun i => (lo.getD i .gone).ren (posOf π)).take os.length = os) (ol : os'.length = os.length) (er : r.ren (backOf π) = r')
    (el : ((List.range n).map fun i => ((os' ++ (π.map fun i => (lo.getD i .gone).ren (posOf π)).drop os.length).getD (posN i π) .gone).ren (backOf π)) = lo')
    (p1 : π.Nodup) (p2 : ∀ k, k < n → k ∈ π) (p3 : π.length = n) (k : K r' [] lo') : CallVC P f args [] lo K := by
  subst hn; subst er
  exact CallVC.methV π h ea eo ol el p1 p2 p3 k

theorem Lend.all {ba lo : List Ob} (r : Rf) (g sz len : Nat) {es : List PV} (h : findO ba lo r = some (.buf g sz es)) (hl : len = es.length) : Lend ba lo (.view r g sz len) (.list sz es) := by
  have := Lend.view r g sz len es h (by omega)
  rw [hl, List.take_length] at this
  rw [hl]
  exact this

theorem Meth.args {f : Nat} {xs ys : List AV} {os os' : List Ob} {r : PV} (h : Meth P f ys os r os') (hl : AVles xs ys) : Meth P f xs os r os' := fun rest => (h rest).args hl

end
end Go.Proofs.Ythmlninecfjjgaa.AD

namespace Go.Proofs.Ythmlninecfjjgaa.AD
set_option linter.unusedVariables false
section
variable {P : Program}

/-- Values in which nothing is held but own objects. -/
inductive FlatA : AV → Prop
  | p (v : PV) : Flat v → FlatA (.p v)
  | ref (r : Rf) (o : Nat) : FlatA (.ref r o)
  | view (r : Rf) (g sz len : Nat) : FlatA (.view r g sz len)
  | elt (r : Rf) (g sz i o : Nat) : FlatA (.elt r g sz i o)
  | mapr (r : Rf) : FlatA (.mapr r)
  | clos (f : Fn) (vs bs : List AV) : (∀ a, a ∈ vs → FlatA a) → (∀ a, a ∈ bs → FlatA a) → FlatA (.clos f vs bs)
  | agg (cs : List AV) : (∀ a, a ∈ cs → FlatA a) → FlatA (.agg cs)
  | tup (cs : List AV) : (∀ a, a ∈ cs → FlatA a) → FlatA (.tup cs)
def FlatO : Ob → Prop
  | .cells cs => ∀ a, a ∈ cs → FlatA a
  | .buf _ _ es => ∀ e, e ∈ es → Flat e
  | .map es => ∀ e, e ∈ es → Flat e.1 ∧ Flat e.2
  | .gone => True

theorem VA.anyM {M M' : Nat → Prop} {n0 : Nat} {μ : List MI} {w : World} {v : Value} {a : AV} (h : VA ⟨M, n0, μ⟩ w v a) : FlatA a → VA ⟨M', n0, μ⟩ w v a := by
  have hat : ∀ {r : Rf} {m : MI}, Ctx.at ⟨M, n0, μ⟩ r = some m → Ctx.at ⟨M', n0, μ⟩ r = some m := fun {r m} h => by
    cases r <;> exact h
  induction h with
  | p v e h =>
    intro hf
    cases hf with
    | p _ hf => exact .p v e (h.anywhere hf)
  | ref r off b h => intro _; exact .ref _ off b (hat h)
  | view0 r g' sz n h => intro _; exact .view0 _ g' sz n (hat h)
  | view r g' sz n b len cap h hl hc => intro _; exact .view _ g' sz n b len cap (hat h) hl hc
  | viewOld v r g' sz len b g2 n h hg h0 => intro _; exact .viewOld v _ g' sz len b g2 n (hat h) hg h0
  | viewGone v r g' sz len h h0 => intro _; exact .viewGone v _ g' sz len (hat h) h0
  | elt r g' sz n b idx off h => intro _; exact .elt _ g' sz n b idx off (hat h)
  | eltOld v r g' sz idx off b g2 n h hg h0 => intro _; exact .eltOld v _ g' sz idx off b g2 n (hat h) hg h0
  | eltGone v r g' sz idx off h h0 => intro _; exact .eltGone v _ g' sz idx off (hat h) h0
  | mapr r b h => intro _; exact .mapr _ b (hat h)
  | maprGone v r h h0 => intro _; exact .maprGone v _ (hat h) h0
  | clos f xs ys vs bs h1 h2 _ _ ih1 ih2 =>
    intro hf
    cases hf with
    | clos _ _ _ f1 f2 => exact .clos f xs ys vs bs h1 h2 (fun j x c hx hc => ih1 j x c hx hc (f1 c (List.mem_of_getElem? hc))) (fun j x c hx hc => ih2 j x c hx hc (f2 c (List.mem_of_getElem? hc)))
  | agg xs cs h1 _ h3 ih =>
    intro hf
    cases hf with
    | agg _ f1 => exact .agg xs cs h1 (fun j x c hx hc => ih j x c hx hc (f1 c (List.mem_of_getElem? hc))) h3
  | tup xs cs h1 _ ih =>
    intro hf
    cases hf with
    | tup _ f1 => exact .tup xs cs h1 (fun j x c hx hc => ih j x c hx hc (f1 c (List.mem_of_getElem? hc)))

theorem ObOk.anyM {M M' : Nat → Prop} {n0 : Nat} {μ : List MI} {w : World} {m : MI} {o : Ob} (h : ObOk ⟨M, n0, μ⟩ w m o) (hf : FlatO o) : ObOk ⟨M', n0, μ⟩ w m o := by
  cases h with
  | cells b xs t cs a1 a2 a3 => exact .cells b xs t _ a1 a2 fun j x c hx hc => ⟨(a3 j x c hx hc).1.anyM (hf c (List.mem_of_getElem? hc)), (a3 j x c hx hc).2⟩
  | buf0 g sz n => exact .buf0 g sz n
  | buf b g n sz xs t es c a1 a2 a3 a4 => exact .buf b g n sz xs t es c a1 a2 a3 fun j e he => ⟨(a4 j e he).1, (a4 j e he).2.1, (a4 j e he).2.2.anywhere (hf e (List.mem_of_getElem? he))⟩
  | map b clock xs es a1 a2 a3 => exact .map b clock xs es a1 a2 fun j x e hx he => ⟨(a3 j x e hx he).1.anywhere (hf e (List.mem_of_getElem? he)).1, (a3 j x e hx he).2.anywhere (hf e (List.mem_of_getElem? he)).2⟩
  | gone => exact .gone

theorem ObOk.lt {Γ : Ctx} {w : World} {m : MI} {o : Ob} (h : ObOk Γ w m o) {b : Nat} (hb : m.block? = some b) : b < w.heap.size := by
  cases h with
  | cells b xs t cs a1 => cases hb; exact (Array.getElem?_eq_some_iff.1 a1).1
  | buf0 => cases hb
  | buf b g n sz xs t es c a1 => cases hb; exact (Array.getElem?_eq_some_iff.1 a1).1
  | map b clock xs es a1 => cases hb; exact (Array.getElem?_eq_some_iff.1 a1).1
  | gone => cases hb
theorem Inv.lt {μ : List MI} {w : World} {ba lo : List Ob} (h : Inv μ w ba lo) {b : Nat} (hb : blocks μ b) : b < w.heap.size := by
  obtain ⟨i, m, hm, hmb⟩ := hb
  have hi := get_lt hm
  rw [h.len] at hi
  rcases Nat.lt_or_ge i ba.length with hl | hl
  · obtain ⟨m', h1, h2⟩ := h.bases i ba[i] (List.getElem?_eq_getElem hl)
    rw [h1] at hm; cases hm
    exact h2.lt hmb
  · have hk : i - ba.length < lo.length := by omega
    obtain ⟨m', h1, h2⟩ := h.locs (i - ba.length) lo[i - ba.length] (List.getElem?_eq_getElem hk)
    rw [Nat.add_sub_cancel' hl] at h1
    rw [h1] at hm; cases hm
    exact h2.lt hmb

def upR (n : Nat) : Rf → Rf
  | .l k => .l (n + k)
  | r => r

theorem blocks_append {μ μ' : List MI} {b : Nat} : blocks (μ ++ μ') b → blocks μ b ∨ blocks μ' b := by
  rintro ⟨i, m, hm, hb⟩
  rcases Nat.lt_or_ge i μ.length with hl | hl
  · rw [List.getElem?_append_left hl] at hm; exact .inl ⟨i, m, hm, hb⟩
  · rw [List.getElem?_append_right hl] at hm; exact .inr ⟨_, m, hm, hb⟩

theorem nil_args {M : Nat → Prop} {n0 : Nat} {μ : List MI} {w : World} {xs : Array Value} {ps : List PV} (hx : VAs ⟨M, n0, μ⟩ w xs (ps.map .p)) : VAs ⟨blocks [], 0, []⟩ w xs (ps.map .p) := by
  refine ⟨hx.1, fun j x a hj ha => ?_⟩
  have := hx.2 j x a hj ha
  rw [List.getElem?_map] at ha
  obtain ⟨p, hp, rfl⟩ := Option.map_eq_some_iff.1 ha
  exact .p _ _ (this.pv.mono ⟨Nat.le_refl _, fun b _ _ => ⟨fun ⟨i, m, h, _⟩ => by simp at h, rfl⟩⟩)

/-- What is made new stands behind what there is. -/
theorem CallVC.fresh {f : Nat} {ps : List PV} {lo os : List Ob} {r0 : AV} {K : AV → List Ob → List Ob → Prop} (h : CallVC P f (ps.map .p) [] [] fun r b l => r = r0 ∧ l = os) (hr : FlatA r0) (ho : ∀ o, o ∈ os → FlatO o)
    (n : Nat) (hn : lo.length = n) (k : K (r0.ren (upR n)) [] (lo ++ os.map (Ob.ren (upR n)))) : CallVC P f (ps.map .p) [] lo K := by
  subst hn
  refine ⟨fun μ w xs hi hx => ?_⟩
  refine (h.out [] w xs (inv_nil w) (nil_args hx)).mono fun e w' hw => ?_
  obtain ⟨v, r, μ', ba', lo', rfl, g2, g3, g4, g5, rfl, rfl⟩ := hw
  have hba : ba' = [] := List.length_eq_zero_iff.1 (by simpa using g5)
  subst hba
  have hμl : μ.length = lo.length := by rw [hi.len]; simp
  have none0 : ∀ b, ¬ blocks [] b := fun b ⟨i, m, h, _⟩ => by simp at h
  have hnew : ∀ b, b < w.heap.size → ¬ blocks μ' b ∧ w'.heap[b]? = w.heap[b]? := fun b hb => g4.stays.2 b hb (none0 b)
  have hst : Stays (blocks μ) w (blocks (μ ++ μ')) w' := ⟨g4.stays.1, fun b hb hm => ⟨fun hc => by
    rcases blocks_append hc with hc | hc
    · exact hm hc
    · exact (hnew b hb).1 hc, (hnew b hb).2⟩⟩
  have hab : Above μ (μ ++ μ') := fun i m hm => ⟨m, by rw [List.getElem?_append_left (get_lt hm)]; exact hm, .refl _⟩
  have hat : ∀ r m, Ctx.at ⟨blocks (μ ++ μ'), 0, μ'⟩ r = some m → Ctx.at ⟨blocks (μ ++ μ'), 0, μ ++ μ'⟩ (upR lo.length r) = some m := fun r m hm => by
    cases r with
    | l k =>
      simp only [Ctx.at, upR, Nat.zero_add] at hm ⊢
      rw [← hμl, List.getElem?_append_right (by omega), Nat.add_sub_cancel_left]
      exact hm
    | b id => simp [Ctx.at] at hm
  refine ⟨v, _, μ ++ μ', [], _, rfl, VA.ren (Γ := ⟨blocks (μ ++ μ'), 0, μ'⟩) (Γ' := ⟨blocks (μ ++ μ'), 0, μ ++ μ'⟩) (g := upR lo.length) (fun _ h => h) hat (VA.anyM g2 hr), ?_, ⟨g4.os, g4.tape, g4.output, hab, hst⟩, rfl, k⟩
  refine ⟨by have := g3.len; simp at this ⊢; omega, fun i j m m' b h1 h2 h3 h4 => ?_, fun i o ho => by simp at ho, fun k o hk => ?_⟩
  · rcases Nat.lt_or_ge i μ.length with hl | hl <;> rcases Nat.lt_or_ge j μ.length with hl2 | hl2
    · rw [List.getElem?_append_left hl] at h1
      rw [List.getElem?_append_left hl2] at h2
      exact hi.apart i j m m' b h1 h2 h3 h4
    · rw [List.getElem?_append_left hl] at h1
      rw [List.getElem?_append_right hl2] at h2
      exact absurd ⟨_, _, h2, h4⟩ (hnew b (hi.lt ⟨_, _, h1, h3⟩)).1
    · rw [List.getElem?_append_right hl] at h1
      rw [List.getElem?_append_left hl2] at h2
      exact absurd ⟨_, _, h1, h3⟩ (hnew b (hi.lt ⟨_, _, h2, h4⟩)).1
    · rw [List.getElem?_append_right hl] at h1
      rw [List.getElem?_append_right hl2] at h2
      have := g3.apart _ _ m m' b h1 h2 h3 h4
      omega
  · simp only [List.length_nil, Nat.zero_add]
    rcases Nat.lt_or_ge k lo.length with hl | hl
    · rw [List.getElem?_append_left hl] at hk
      obtain ⟨m, h1, h2⟩ := hi.locs k o hk
      simp only [List.length_nil, Nat.zero_add] at h1
      exact ⟨m, by rw [List.getElem?_append_left (get_lt h1)]; exact h1, h2.mono hst hab fun b hb => (hnew b (h2.lt hb)).2⟩
    · rw [List.getElem?_append_right hl, List.getElem?_map] at hk
      obtain ⟨o', ho', rfl⟩ := Option.map_eq_some_iff.1 hk
      obtain ⟨m, h1, h2⟩ := g3.locs _ o' ho'
      simp only [List.length_nil, Nat.zero_add] at h1
      exact ⟨m, by rw [List.getElem?_append_right (by omega), hμl]; exact h1, ObOk.ren (Γ := ⟨blocks (μ ++ μ'), 0, μ'⟩) (Γ' := ⟨blocks (μ ++ μ'), 0, μ ++ μ'⟩) (g := upR lo.length) (fun _ h => h) hat (ObOk.anyM h2 (ho o' (List.mem_of_getElem? ho')))⟩

/-! ### and may be told vs a plain value -/
inductive LendF (lo : List Ob) : AV → PV → Prop
  | p (v : PV) : Flat v → LendF lo (.p v) v
  | view (k g sz len : Nat) (es : List PV) : lo[k]? = some (.buf g sz es) → len = es.length → (∀ e, e ∈ es → Flat e) → LendF lo (.view (.l k) g sz len) (.list sz es)
  | agg (cs : List AV) (ps : List PV) : cs.length = ps.length → (∀ (j : Nat) (c : AV) (p : PV), cs[j]? = some c → ps[j]? = some p → LendF lo c p) → LendF lo (.agg cs) (.agg ps)
  | tup (cs : List AV) (ps : List PV) : cs.length = ps.length → (∀ (j : Nat) (c : AV) (p : PV), cs[j]? = some c → ps[j]? = some p → LendF lo c p) → LendF lo (.tup cs) (.tup ps)

theorem LendF.close {lo : List Ob} {a : AV} {p : PV} (h : LendF lo a p) : ∀ (μ : List MI) (w : World) (M : Nat → Prop), Inv μ w [] lo → (∀ b, blocks μ b → ¬ M b) → ∀ v, VA ⟨blocks μ, 0, μ⟩ w v a → VP M w v p := by
  induction h with
  | p v hf => intro μ w M hi hM x hx; exact hx.pv.anywhere hf
  | view k g sz len es hf hl hfl =>
    intro μ w M hi hM x hx
    subst hl
    obtain ⟨m, hm, hok⟩ := hi.locs k _ hf
    simp only [List.length_nil, Nat.zero_add] at hm
    have hat : Ctx.at ⟨blocks μ, 0, μ⟩ (.l k) = some m := by simp only [Ctx.at, Nat.zero_add]; exact hm
    generalize hlen : es.length = len at hx
    cases hx with
    | view0 _ _ _ n ha =>
      rw [List.length_eq_zero_iff.1 hlen]; exact .list0 _ _ _ fun _ => rfl
    | view _ _ _ n b _ cap ha hlc hcs =>
      rw [hat] at ha
      cases ha
      cases hok with
      | buf _ _ _ _ xs t _ c k1 k2 k3 k4 =>
        have hb : b < w.heap.size := (Array.getElem?_eq_some_iff.1 k1).1
        have hcell : ∀ (i : Nat) (y : Value), xs[i]? = some y → w.cell? ⟨b, 0 + i, none⟩ = some y := fun i y hy => by
          unfold World.cell?
          rw [k1]
          simp [hy]
        rw [← hlen]
        exact VP.list (M := M) (w := w) b 0 cap sz es c (hM b ⟨k, _, hm, rfl⟩) hb (by omega)
          (fun j e he => (k4 j e he).1)
          (fun j e he i y hy => ⟨((k4 j e he).2.1 i y hy).1, hcell _ _ ((k4 j e he).2.1 i y hy).2⟩)
          (fun j e he => (k4 j e he).2.2.anywhere (hfl e (List.mem_of_getElem? he)))
    | viewOld _ _ _ _ _ b g' n ha hg h0 =>
      rw [hat] at ha
      cases ha
      cases hok <;> exact absurd hg (Nat.lt_irrefl _)
    | viewGone _ _ _ _ _ ha h0 =>
      rw [hat] at ha
      cases ha
      cases hok
  | agg cs ps hl hc ih =>
    intro μ w M hi hM x hx
    cases hx with
    | agg xs _ k1 k2 k3 =>
      refine .agg xs ps (by rw [k1, hl]) (fun j y p hy hp => ?_) k3
      have hj2 : j < cs.length := by rw [hl]; exact get_lt hp
      exact ih j _ p (List.getElem?_eq_getElem hj2) hp μ w M hi hM y (k2 j y _ hy (List.getElem?_eq_getElem hj2))
  | tup cs ps hl hc ih =>
    intro μ w M hi hM x hx
    cases hx with
    | tup xs _ k1 k2 =>
      refine .tup xs ps (by rw [k1, hl]) (fun j y p hy hp => ?_)
      have hj2 : j < cs.length := by rw [hl]; exact get_lt hp
      exact ih j _ p (List.getElem?_eq_getElem hj2) hp μ w M hi hM y (k2 j y _ hy (List.getElem?_eq_getElem hj2))

theorem pureF_fresh {f : Nat} {ps : List PV} {R : PV} (h : CallVC P f (ps.map .p) [] [] fun r b l => LendF l r R) : AD.pureF P f (ps.map .p) (.p R) := by
  intro H μ w xs hi hx
  refine Calls.mono' (h.out [] w xs (inv_nil w) (nil_args hx)) fun e w' hw => ?_
  obtain ⟨v, r, μ', ba', lo', rfl, g2, g3, g4, g5, g6⟩ := hw
  have hba : ba' = [] := List.length_eq_zero_iff.1 (by simpa using g5)
  subst hba
  have hnew : ∀ b, b < w.heap.size → ¬ blocks μ' b ∧ w'.heap[b]? = w.heap[b]? := fun b hb => g4.stays.2 b hb fun ⟨i, m, h, _⟩ => by simp at h
  have hv : VP (blocks μ) w' v R := g6.close μ' w' (blocks μ) g3 (fun b hb hc => (hnew b (hi.lt hc)).1 hb) v g2
  exact ⟨v, _, _, μ, rfl, ⟨rfl, rfl⟩, hi.kept g4.stays.1 fun b hb => (hnew b hb).2, .p _ _ hv, g4.os, g4.tape, g4.output, .refl μ, g4.stays.1, fun b hb hm => ⟨hm, (hnew b hb).2⟩⟩

/-! ### a list that is nil yet, behind a call -/
theorem Inv.ghost {μ : List MI} {w : World} {ba lo : List Ob} (hi : Inv μ w ba lo) (m j sz : Nat) {cs : List AV} (h1 : lo[m]? = some (.cells cs)) (h2 : cs[j]? = some (.p .nils)) :
    Stays (blocks μ) w (blocks (μ ++ [.buf none 0 0])) w ∧ Above μ (μ ++ [.buf none 0 0]) ∧ Inv (μ ++ [.buf none 0 0]) w ba (lo.set m (.cells (cs.set j (.view (.l lo.length) 0 sz 0))) ++ [.buf 0 sz []]) := by
  have hblk : ∀ b, blocks (μ ++ [.buf none 0 0]) b → blocks μ b := by
    rintro b ⟨i, m', hm, hb⟩
    rcases Nat.lt_or_ge i μ.length with hl | hl
    · rw [List.getElem?_append_left hl] at hm; exact ⟨i, m', hm, hb⟩
    · rw [List.getElem?_append_right hl] at hm
      have : i - μ.length = 0 := by have := get_lt hm; simp at this; omega
      rw [this] at hm
      cases hm
      cases hb
  have hst : Stays (blocks μ) w (blocks (μ ++ [.buf none 0 0])) w := ⟨Nat.le_refl _, fun b _ hb => ⟨fun hc => hb (hblk b hc), rfl⟩⟩
  have hab : Above μ (μ ++ [.buf none 0 0]) := fun i m' hm => ⟨m', by rw [List.getElem?_append_left (get_lt hm)]; exact hm, .refl _⟩
  have hle : ba.length ≤ μ.length := by rw [hi.len]; omega
  have htk : (μ ++ [MI.buf none 0 0]).take ba.length = μ.take ba.length := List.take_append_of_le_length hle
  have obm : ∀ {m : MI} {o : Ob} {μ1 μ2 : List MI}, Above μ1 μ2 → ObOk ⟨blocks μ, ba.length, μ1⟩ w m o → ObOk ⟨blocks (μ ++ [.buf none 0 0]), ba.length, μ2⟩ w m o := fun ha ho => ho.mono hst ha fun b _ => rfl
  have hml := get_lt h1
  have hi2 : Inv (μ ++ [.buf none 0 0]) w ba (lo.set m (.cells (cs.set j (.view (.l lo.length) 0 sz 0))) ++ [.buf 0 sz []]) := by
    refine ⟨by simp [hi.len]; omega, fun a c m1 m2 b g1 g2 g3 g4 => ?_, fun i o ho => ?_, fun k o ho => ?_⟩
    · have lt : ∀ {a : Nat} {m1 : MI}, (μ ++ [.buf none 0 0])[a]? = some m1 → m1.block? = some b → μ[a]? = some m1 := fun {a m1} g1 g3 => by
        rcases Nat.lt_or_ge a μ.length with hl | hl
        · rwa [List.getElem?_append_left hl] at g1
        · rw [List.getElem?_append_right hl] at g1
          have : a - μ.length = 0 := by have := get_lt g1; simp at this; omega
          rw [this] at g1
          cases g1
          cases g3
      exact hi.apart a c m1 m2 b (lt g1 g3) (lt g2 g4) g3 g4
    · obtain ⟨m1, g1, g2⟩ := hi.bases i o ho
      refine ⟨m1, by rw [List.getElem?_append_left (get_lt g1)]; exact g1, ?_⟩
      rw [htk]
      exact obm (.refl _) g2
    · rcases Nat.lt_or_ge k lo.length with hk | hk
      · rw [List.getElem?_append_left (by simpa using hk), List.getElem?_set] at ho
        by_cases hkm : m = k
        · subst hkm
          rw [if_pos rfl, if_pos hml] at ho
          cases ho
          obtain ⟨m1, g1, g2⟩ := hi.locs m _ h1
          refine ⟨m1, by rw [List.getElem?_append_left (get_lt g1)]; exact g1, ?_⟩
          cases obm hab g2 with
          | cells b ys t _ k1 k2 k3 =>
            refine .cells b ys t _ k1 (by simpa using k2) fun i x c hx hc => ?_
            rw [List.getElem?_set] at hc
            by_cases hij : j = i
            · subst hij
              rw [if_pos rfl, if_pos (get_lt h2)] at hc
              cases hc
              have hv := k3 j x _ hx h2
              refine ⟨?_, hv.2⟩
              have hx0 : x = .slice none 0 0 := by
                have := hv.1.pv
                cases this; rfl
              rw [hx0]
              exact .view0 _ _ _ 0 (by simp only [Ctx.at]; rw [← hi.len, List.getElem?_append_right (Nat.le_refl _), Nat.sub_self]; rfl)
            · rw [if_neg hij] at hc
              exact k3 i x c hx hc
        · rw [if_neg hkm] at ho
          obtain ⟨m1, g1, g2⟩ := hi.locs k o ho
          exact ⟨m1, by rw [List.getElem?_append_left (get_lt g1)]; exact g1, obm hab g2⟩
      · rw [List.getElem?_append_right (by simpa using hk)] at ho
        have hk2 : k = lo.length := by have := get_lt ho; simp at this; omega
        subst hk2
        simp at ho
        subst ho
        exact ⟨.buf none 0 0, by rw [← hi.len, List.getElem?_append_right (Nat.le_refl _), Nat.sub_self]; rfl, .buf0 _ _ _⟩
  exact ⟨hst, hab, hi2⟩

theorem CallVC.ghostP {f : Nat} {args : List AV} {ba lo : List Ob} {K : AV → List Ob → List Ob → Prop} (m j sz : Nat)
    (h : CallVC P f args ba lo fun r b l => ∃ cs, l[m]? = some (.cells cs) ∧ cs[j]? = some (.p .nils) ∧ K r b (l.set m (.cells (cs.set j (.view (.l l.length) 0 sz 0))) ++ [.buf 0 sz []])) : CallVC P f args ba lo K := by
  refine ⟨fun μ w xs hi hx => (h.out μ w xs hi hx).mono fun e w' hw => ?_⟩
  obtain ⟨v, r, μ', ba', lo', g1, g2, g3, g4, g5, cs, h1, h2, hk⟩ := hw
  obtain ⟨hst, hab, hi2⟩ := g3.ghost m j sz h1 h2
  rw [g5.symm] at g2
  have g2' : VA ⟨blocks (μ' ++ [.buf none 0 0]), ba.length, μ' ++ [.buf none 0 0]⟩ w' v r := by rw [← g5]; exact g2.mono hst hab
  exact ⟨v, r, _, ba', _, g1, g2', hi2, ⟨g4.os, g4.tape, g4.output, g4.above.trans hab, g4.stays.trans hst⟩, g5, hk⟩

theorem CallVC.args {f : Nat} {vs bs : List AV} {ba lo : List Ob} {K : AV → List Ob → List Ob → Prop} (h : CallVC P f bs ba lo K) (hl : AVles vs bs) : CallVC P f vs ba lo K := by
  obtain ⟨h1, h2⟩ := hl.out
  refine ⟨fun μ w xs hi hx => h.out μ w xs hi ⟨by rw [hx.1, h1], fun j x b hj hb => ?_⟩⟩
  obtain ⟨a, ha, hv⟩ := h2 j b hb
  exact hv _ _ _ (hx.2 j x a hj ha)

end
end Go.Proofs.Ythmlninecfjjgaa.AD
