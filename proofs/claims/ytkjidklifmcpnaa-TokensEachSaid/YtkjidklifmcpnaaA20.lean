/- A plainer machine, twenty: how it is used. -/
import Derived.Test.YtkjidklifmcpnaaA19
import Derived.IntWalk
namespace Go.Proofs.Ytkjidklifmcpnaa.AD
set_option linter.unusedVariables false
section
variable {P : Program}

theorem CallVC.pureF {f : Nat} {args : List AV} {ba lo : List Ob} {K : AV → List Ob → List Ob → Prop} {e : PV} (h : pureF P f args (.p e)) (ha : AV.closes ba.length args = args) (k : K (.p e) ba lo) : CallVC P f args ba lo K :=
  .pure (by rw [ha]; exact h _) k

theorem CallD.pureF {f : Nat} {args : List AV} {ba lo : List Ob} {K : AV → List Ob → List Ob → Prop} {e : PV} (h : pureF P f args (.p e)) (ha : AV.closes ba.length args = args) (k : K (.p e) ba lo) : CallD P f args ba lo K :=
  ⟨e, fun X => by rw [ha]; exact h _, k⟩

theorem pureF_of {own : List Nat} {f : Nat} {ir : IF} {args : List AV} {r : AV} (hc : compF P own f = some ir.bare) (h : ∀ H, fnV P ir args H fun r' H' => r' = r ∧ H' = H) : pureF P f args r :=
  fun H => sound hc (h H)

/-! ### one value for another -/

/-- Whatever stands for the one stands for the other. -/
def PV.le (a b : PV) : Prop := ∀ (M : Nat → Prop) (w : World) (v : Value), VP M w v a → VP M w v b

theorem PV.le.refl (a : PV) : a.le a := fun _ _ _ h => h
theorem PV.le.trans {a b c : PV} (h : a.le b) (k : b.le c) : a.le c := fun M w v hv => k M w v (h M w v hv)

/-- Rows of such. -/
inductive PV.les : List PV → List PV → Prop
  | nil : PV.les [] []
  | cons (a b : PV) (as bs : List PV) : a.le b → PV.les as bs → PV.les (a :: as) (b :: bs)

theorem PV.les.refl : ∀ (l : List PV), PV.les l l
  | [] => .nil
  | a :: r => .cons a a r r (.refl a) (.refl r)
theorem PV.les.length {as bs : List PV} (h : PV.les as bs) : as.length = bs.length := by
  induction h with
  | nil => rfl
  | cons _ _ _ _ _ _ ih => simp [ih]
theorem PV.les.get {as bs : List PV} (h : PV.les as bs) : ∀ (j : Nat) (b : PV), bs[j]? = some b → ∃ a, as[j]? = some a ∧ a.le b := by
  induction h with
  | nil => intro j b e; simp at e
  | cons a b' as bs h _ ih =>
    intro j b e
    cases j with
    | zero => simp at e; subst e; exact ⟨a, rfl, h⟩
    | succ j => exact ih j b (by simpa using e)

theorem PV.le.agg {as bs : List PV} (h : PV.les as bs) : PV.le (.agg as) (.agg bs) := by
  intro M w v hv
  cases hv with
  | agg xs _ h1 h2 h3 =>
    refine .agg xs bs (by rw [h1, h.length]) (fun j x c hx hc => ?_) h3
    obtain ⟨a, ha, hl⟩ := h.get j c hc
    exact hl M w x (h2 j x a hx ha)
theorem PV.le.tup {as bs : List PV} (h : PV.les as bs) : PV.le (.tup as) (.tup bs) := by
  intro M w v hv
  cases hv with
  | tup xs _ h1 h2 =>
    refine .tup xs bs (by rw [h1, h.length]) (fun j x c hx hc => ?_)
    obtain ⟨a, ha, hl⟩ := h.get j c hc
    exact hl M w x (h2 j x a hx ha)
theorem PV.le.list {sz : Nat} {as bs : List PV} (h : PV.les as bs) : PV.le (.list sz as) (.list sz bs) := by
  intro M w v hv
  cases hv with
  | list0 sz A cap h0 => cases h; exact .list0 sz A cap h0
  | list b off cap _ _ c h1 h2 h3 h4 h5 h6 =>
    rw [h.length]
    rw [h.length] at h3
    refine .list b off cap sz bs c h1 h2 h3 (fun j e he => ?_) (fun j e he => ?_) (fun j e he => ?_)
    · obtain ⟨a, ha, hl⟩ := h.get j e he; exact h4 j a ha
    · obtain ⟨a, ha, hl⟩ := h.get j e he; exact h5 j a ha
    · obtain ⟨a, ha, hl⟩ := h.get j e he; exact hl M w _ (h6 j a ha)
theorem PV.le.lent {sz : Nat} {as sp bs : List PV} (h : PV.les as bs) : PV.le (.lent sz as sp) (.list sz bs) := by
  intro M w v hv
  cases hv with
  | lent b off cap _ _ _ c h1 h2 h3 h4 h5 h6 =>
    have up : ∀ {j : Nat} {a : PV}, as[j]? = some a → (as ++ sp)[j]? = some a := fun {j a} ha => by rw [List.getElem?_append_left (get_lt ha)]; exact ha
    rw [List.length_append, h.length] at h3
    rw [h.length]
    refine .list b off cap sz bs c h1 h2 (by omega) (fun j e he => ?_) (fun j e he => ?_) (fun j e he => ?_)
    · obtain ⟨a, ha, hl⟩ := h.get j e he; exact h4 j a (up ha)
    · obtain ⟨a, ha, hl⟩ := h.get j e he; exact h5 j a (up ha)
    · obtain ⟨a, ha, hl⟩ := h.get j e he; exact hl M w _ (h6 j a (up ha))
theorem PV.le.nils (sz : Nat) : PV.le .nils (.list sz []) := by
  intro M w v hv
  cases hv with
  | nils => exact .list0 sz none 0 fun _ => rfl

inductive AVles : List AV → List AV → Prop
  | nil : AVles [] []
  | same (a : AV) (as bs : List AV) : AVles as bs → AVles (a :: as) (a :: bs)
  | p (a b : PV) (as bs : List AV) : a.le b → AVles as bs → AVles (.p a :: as) (.p b :: bs)

theorem AVles.out {as bs : List AV} (h : AVles as bs) : as.length = bs.length ∧ ∀ (j : Nat) (b : AV), bs[j]? = some b → ∃ a, as[j]? = some a ∧ ∀ Γ w v, VA Γ w v a → VA Γ w v b := by
  induction h with
  | nil => exact ⟨rfl, fun j b e => by simp at e⟩
  | same a as bs _ ih =>
    refine ⟨by simp [ih.1], fun j b e => ?_⟩
    cases j with
    | zero => simp at e; subst e; exact ⟨a, rfl, fun _ _ _ h => h⟩
    | succ j => exact ih.2 j b (by simpa using e)
  | p a b' as bs hl _ ih =>
    refine ⟨by simp [ih.1], fun j b e => ?_⟩
    cases j with
    | zero => simp at e; subst e; exact ⟨_, rfl, fun _ _ _ h => .p _ _ (hl _ _ _ h.pv)⟩
    | succ j => exact ih.2 j b (by simpa using e)

/-- What is shown for plainer arguments holds for richer ones. -/
theorem callA.args {f : Nat} {as bs : List AV} {H : List Ob} {Q : AV → List Ob → Prop} (h : callA P f bs H Q) (hl : AVles as bs) : callA P f as H Q := by
  obtain ⟨h1, h2⟩ := hl.out
  intro μ w xs hi hx
  refine h μ w xs hi ⟨by rw [hx.1, h1], fun j x b hj hb => ?_⟩
  obtain ⟨a, ha, hv⟩ := h2 j b hb
  exact hv _ _ _ (hx.2 j x a hj ha)
theorem pureF.args {f : Nat} {as bs : List AV} {r : AV} (h : pureF P f bs r) (hl : AVles as bs) : pureF P f as r := fun H => (h H).args hl

theorem pureF.to {f : Nat} {as : List AV} {r r' : PV} (h : pureF P f as (.p r)) (hl : r.le r') : pureF P f as (.p r') := fun H μ w xs hi hx => by
  refine Calls.mono' (h H μ w xs hi hx) ?_
  rintro e w' ⟨v, r1, H', μ', g1, ⟨rfl, rfl⟩, g3, g4, g5⟩
  exact ⟨v, _, H', μ', g1, ⟨rfl, rfl⟩, g3, .p _ _ (hl _ _ _ g4.pv), g5⟩


theorem drop_cons {α : Type} {xs : List α} {i : Nat} {r : List α} {a : α} (h : xs.drop i = a :: r) : xs[i]? = some a ∧ xs.drop (i + 1) = r ∧ i < xs.length := by
  have hg : xs[i]? = some a := by
    have : (xs.drop i)[0]? = some a := by rw [h]; rfl
    rwa [List.getElem?_drop] at this
  refine ⟨hg, ?_, get_lt hg⟩
  have : xs.drop (i + 1) = (xs.drop i).drop 1 := by rw [List.drop_drop]
  rw [this, h]; rfl
theorem drop_nil {α : Type} {xs : List α} {i : Nat} (h : xs.drop i = []) : xs.length ≤ i := List.drop_eq_nil_iff.1 h

theorem ba_toList (s : ByteArray) : s.toList = s.data.toList := by
  have loop : ∀ (n i : Nat) (r : List UInt8), s.size - i = n → ByteArray.toList.loop s i r = r.reverse ++ s.data.toList.drop i := by
    intro n
    induction n with
    | zero =>
      intro i r h
      unfold ByteArray.toList.loop
      rw [if_neg (by omega), List.drop_eq_nil_iff.2 (by simp; show s.size ≤ i; omega)]
      simp
    | succ n ih =>
      intro i r h
      unfold ByteArray.toList.loop
      have hi : i < s.size := by omega
      rw [if_pos hi, ih (i + 1) _ (by omega)]
      have hi' : i < s.data.toList.length := by simp; exact hi
      rw [List.drop_eq_getElem_cons hi']
      simp [ByteArray.get!, getElem!_pos, hi]
  unfold ByteArray.toList
  rw [loop _ 0 [] rfl]
  simp
theorem ba_ext {a b : ByteArray} : a.toList = b.toList ↔ a.data.toList = b.data.toList := by rw [ba_toList, ba_toList]
theorem ba_size (s : ByteArray) : s.size = s.data.toList.length := by rw [Array.length_toList]; rfl

end
end Go.Proofs.Ytkjidklifmcpnaa.AD
