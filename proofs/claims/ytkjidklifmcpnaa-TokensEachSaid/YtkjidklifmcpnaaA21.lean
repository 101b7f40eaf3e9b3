/- A plainer machine, twenty-one: own objects lent to a call that only reads. -/
import Derived.Test.YtkjidklifmcpnaaA20
namespace Go.Proofs.Ytkjidklifmcpnaa.AD
set_option linter.unusedVariables false
section
variable {P : Program}

/-- Values without places. -/
inductive Flat : PV → Prop
  | undef : Flat .undef
  | bool (b : Bool) : Flat (.bool b)
  | int (k : IntKind) (n : Int) : Flat (.int k n)
  | str (s : ByteArray) : Flat (.str s)
  | nils : Flat .nils
  | nilp : Flat .nilp
  | fn (f : Fn) : Flat (.fn f)
  | nilf : Flat .nilf
  | nilm : Flat .nilm
  | nili : Flat .nili
  | agg (cs : List PV) : (∀ c, c ∈ cs → Flat c) → Flat (.agg cs)
  | tup (cs : List PV) : (∀ c, c ∈ cs → Flat c) → Flat (.tup cs)

theorem VP.anywhere {M M' : Nat → Prop} {w w' : World} {v : Value} {e : PV} (h : VP M w v e) : Flat e → VP M' w' v e := by
  induction h with
  | undef v => intro _; exact .undef v
  | bool b => intro _; exact .bool b
  | int k n => intro _; exact .int k n
  | str s => intro _; exact .str s
  | agg xs cs h1 _ h3 ih =>
    intro hf
    cases hf with
    | agg _ hc => exact .agg xs cs h1 (fun j x c hx he => ih j x c hx he (hc c (List.mem_of_getElem? he))) h3
  | tup xs cs h1 _ ih =>
    intro hf
    cases hf with
    | tup _ hc => exact .tup xs cs h1 (fun j x c hx he => ih j x c hx he (hc c (List.mem_of_getElem? he)))
  | nils => intro _; exact .nils
  | nilp => intro _; exact .nilp
  | fn f => intro _; exact .fn f
  | nilf => intro _; exact .nilf
  | nilm => intro _; exact .nilm
  | nili => intro _; exact .nili
  | list0 => intro hf; cases hf
  | list => intro hf; cases hf
  | lent => intro hf; cases hf
  | ptr => intro hf; cases hf
  | iface => intro hf; cases hf

/-- Where an object stands. -/
def findO (ba lo : List Ob) : Rf → Option Ob
  | .l k => lo[k]?
  | .b id => ba[id]?

/-- A value, and what it is while nobody writes. -/
inductive Lend (ba lo : List Ob) : AV → PV → Prop
  | p (v : PV) : Lend ba lo (.p v) v
  | view (r : Rf) (g sz len : Nat) (es : List PV) : findO ba lo r = some (.buf g sz es) → len ≤ es.length → Lend ba lo (.view r g sz len) (.list sz (es.take len))
  | refL (k : Nat) (cs : List AV) (ps : List PV) : lo[k]? = some (.cells cs) → cs.length = ps.length → (∀ (j : Nat) (c : AV) (p : PV), cs[j]? = some c → ps[j]? = some p → Lend ba lo c p) → Lend ba lo (.ref (.l k) 0) (.ptr ps)
  | refB (id : Nat) (ps : List PV) : ba[id]? = some (.cells (ps.map .p)) → Lend ba lo (.ref (.b id) 0) (.ptr ps)
  | agg (cs : List AV) (ps : List PV) : cs.length = ps.length → (∀ (j : Nat) (c : AV) (p : PV), cs[j]? = some c → ps[j]? = some p → Lend ba lo c p) → Lend ba lo (.agg cs) (.agg ps)

theorem Lend.close {ba lo : List Ob} {a : AV} {p : PV} (h : Lend ba lo a p) : ∀ (μ : List MI) (w : World), Inv μ w (flat ba lo) [] → ∀ v, VA ⟨blocks μ, (flat ba lo).length, μ⟩ w v (a.close ba.length) → VP (fun _ => False) w v p := by
  have fresh : ∀ (μ : List MI) (w : World), Stays (blocks μ) w (fun _ => False) w := fun μ w => ⟨Nat.le_refl _, fun _ _ _ => ⟨fun h => h, rfl⟩⟩
  induction h with
  | p v => intro μ w hi x hx; exact hx.pv.mono (fresh μ w)
  | view r g sz len es hf hl =>
    intro μ w hi x hx
    have hfl : ∃ id, r.close ba.length = .b id ∧ (flat ba lo)[id]? = some (.buf g sz es) := by
      cases r with
      | l k => exact ⟨ba.length + k, rfl, by rw [flat, List.getElem?_append_right (by omega), Nat.add_sub_cancel_left, List.getElem?_map, show lo[k]? = _ from hf]; rfl⟩
      | b id => exact ⟨id, rfl, by rw [flat, List.getElem?_append_left (get_lt hf)]; exact hf⟩
    obtain ⟨id, h1, h2⟩ := hfl
    rw [AV.close, h1] at hx
    obtain ⟨m, hm, hok⟩ := hi.bases id _ h2
    have hlt := get_lt h2
    have hat : Ctx.at ⟨blocks μ, (flat ba lo).length, μ⟩ (.b id) = some m := by rw [Ctx.at, if_pos hlt]; exact hm
    cases hx with
    | view0 _ _ _ n ha =>
      rw [List.take_zero]; exact .list0 _ _ _ fun _ => rfl
    | view _ _ _ n b _ cap ha hlc hcs =>
      rw [hat] at ha
      cases ha
      cases hok with
      | buf _ _ _ _ xs t _ c k1 k2 k3 k4 =>
        have hb : b < w.heap.size := (Array.getElem?_eq_some_iff.1 k1).1
        rcases Nat.eq_zero_or_pos len with h0 | h0
        · subst h0; rw [List.take_zero]; exact .list0 _ _ _ fun e => by cases e
        · have ht : (es.take len).length = len := by rw [List.length_take]; omega
          have up : ∀ {j : Nat} {e : PV}, (es.take len)[j]? = some e → es[j]? = some e := fun {j e} he => by
            rw [List.getElem?_take] at he
            split at he
            · exact he
            · cases he
          have hcell : ∀ (i : Nat) (y : Value), xs[i]? = some y → w.cell? ⟨b, 0 + i, none⟩ = some y := fun i y hy => by
            unfold World.cell?
            rw [k1]
            simp [hy]
          have hv := VP.list (M := fun _ => False) (w := w) b 0 cap sz (es.take len) c (fun h => h) hb (by rw [ht]; exact hlc)
            (fun j e he => (k4 j e (up he)).1)
            (fun j e he i y hy => ⟨((k4 j e (up he)).2.1 i y hy).1, hcell _ _ ((k4 j e (up he)).2.1 i y hy).2⟩)
            (fun j e he => (k4 j e (up he)).2.2.mono ⟨Nat.le_refl _, fun _ _ _ => ⟨fun h => h, rfl⟩⟩)
          rw [ht] at hv
          exact hv
    | viewOld _ _ _ _ _ b g' n ha hg h0 =>
      rw [hat] at ha
      cases ha
      cases hok <;> exact absurd hg (Nat.lt_irrefl _)
    | viewGone _ _ _ _ _ ha h0 =>
      rw [hat] at ha
      cases ha
      cases hok
  | refL k cs ps hf hl hc ih =>
    intro μ w hi x hx
    have h2 : (flat ba lo)[ba.length + k]? = some (.cells (AV.closes ba.length cs)) := by
      rw [flat, List.getElem?_append_right (by omega), Nat.add_sub_cancel_left, List.getElem?_map, hf]; rfl
    rw [AV.close, Rf.close] at hx
    obtain ⟨m, hm, hok⟩ := hi.bases _ _ h2
    have hlt := get_lt h2
    have hat : Ctx.at ⟨blocks μ, (flat ba lo).length, μ⟩ (.b (ba.length + k)) = some m := by rw [Ctx.at, if_pos hlt]; exact hm
    cases hx with
    | ref _ _ b ha =>
      rw [hat] at ha
      cases ha
      cases hok with
      | cells _ xs t _ k1 k2 k3 =>
        have hb : b < w.heap.size := (Array.getElem?_eq_some_iff.1 k1).1
        have hlen : xs.size = ps.length := by rw [k2, closes_length, hl]
        have hμ : μ.take (flat ba lo).length = μ := by
          have := hi.len
          simp at this
          exact List.take_of_length_le (by omega)
        refine .ptr b 0 ps (fun j => xs[j]?.getD default) (fun h => h) hb (fun j e he => ?_) (fun j e he => ?_)
        · have hj : j < xs.size := by rw [hlen]; exact get_lt he
          have hj2 : j < cs.length := by rw [hl]; exact get_lt he
          have hx : xs[j]? = some xs[j] := Array.getElem?_eq_getElem hj
          rw [hx]
          refine ⟨(k3 j _ ((cs[j]).close ba.length) hx (by rw [closes_get, List.getElem?_eq_getElem hj2]; rfl)).2, ?_⟩
          unfold World.cell?
          rw [k1]
          simp [hx]
        · have hj : j < xs.size := by rw [hlen]; exact get_lt he
          have hj2 : j < cs.length := by rw [hl]; exact get_lt he
          have hx : xs[j]? = some xs[j] := Array.getElem?_eq_getElem hj
          rw [hx]
          have hva := (k3 j _ ((cs[j]).close ba.length) hx (by rw [closes_get, List.getElem?_eq_getElem hj2]; rfl)).1
          rw [hμ] at hva
          exact ih j _ e (List.getElem?_eq_getElem hj2) he μ w hi _ hva
  | refB id ps hf =>
    intro μ w hi x hx
    have h2 : (flat ba lo)[id]? = some (.cells (ps.map .p)) := by
      rw [flat, List.getElem?_append_left (get_lt hf)]; exact hf
    rw [AV.close, Rf.close] at hx
    obtain ⟨m, hm, hok⟩ := hi.bases _ _ h2
    have hlt := get_lt h2
    have hat : Ctx.at ⟨blocks μ, (flat ba lo).length, μ⟩ (.b id) = some m := by rw [Ctx.at, if_pos hlt]; exact hm
    cases hx with
    | ref _ _ b ha =>
      rw [hat] at ha
      cases ha
      cases hok with
      | cells _ xs t _ k1 k2 k3 =>
        have hb : b < w.heap.size := (Array.getElem?_eq_some_iff.1 k1).1
        have hlen : xs.size = ps.length := by rw [k2, List.length_map]
        refine .ptr b 0 ps (fun j => xs[j]?.getD default) (fun h => h) hb (fun j e he => ?_) (fun j e he => ?_)
        · have hj : j < xs.size := by rw [hlen]; exact get_lt he
          have hx : xs[j]? = some xs[j] := Array.getElem?_eq_getElem hj
          rw [hx]
          refine ⟨(k3 j _ (.p e) hx (by rw [List.getElem?_map, he]; rfl)).2, ?_⟩
          unfold World.cell?
          rw [k1]
          simp [hx]
        · have hj : j < xs.size := by rw [hlen]; exact get_lt he
          have hx : xs[j]? = some xs[j] := Array.getElem?_eq_getElem hj
          rw [hx]
          exact (k3 j _ (.p e) hx (by rw [List.getElem?_map, he]; rfl)).1.pv.mono ⟨Nat.le_refl _, fun _ _ _ => ⟨fun h => h, rfl⟩⟩
  | agg cs ps hl hc ih =>
    intro μ w hi x hx
    rw [AV.close] at hx
    cases hx with
    | agg xs _ k1 k2 k3 =>
      rw [closes_length] at k1
      refine .agg xs ps (by rw [k1, hl]) (fun j y p hy hp => ?_) k3
      have hj2 : j < cs.length := by rw [hl]; exact get_lt hp
      exact ih j _ p (List.getElem?_eq_getElem hj2) hp μ w hi y (k2 j y _ hy (by rw [closes_get, List.getElem?_eq_getElem hj2]; rfl))

theorem inv_nil (W : World) : Inv [] W [] [] := ⟨rfl, fun i j m m' b h => by simp at h, fun i o h => by simp at h, fun k o h => by simp at h⟩

theorem Inv.kept {μ : List MI} {w w' : World} {H : List Ob} (h : Inv μ w H []) (hs : w.heap.size ≤ w'.heap.size) (hb : ∀ b, b < w.heap.size → w'.heap[b]? = w.heap[b]?) : Inv μ w' H [] := by
  have st : ∀ M : Nat → Prop, Stays M w M w' := fun M => ⟨hs, fun b h1 h2 => ⟨h2, hb b h1⟩⟩
  refine ⟨h.len, h.apart, fun i o ho => ?_, fun k o ho => by simp at ho⟩
  obtain ⟨m, hm, hok⟩ := h.bases i o ho
  refine ⟨m, hm, ?_⟩
  cases hok with
  | cells b xs t cs k1 k2 k3 => exact .cells b xs t cs ((hb b (Array.getElem?_eq_some_iff.1 k1).1).trans k1) k2 fun j x c hx hc => ⟨(k3 j x c hx hc).1.mono (st _) (.refl _), (k3 j x c hx hc).2⟩
  | buf0 g sz n => exact .buf0 g sz n
  | buf b g n sz xs t es c k1 k2 k3 k4 => exact .buf b g n sz xs t es c ((hb b (Array.getElem?_eq_some_iff.1 k1).1).trans k1) k2 k3 fun j e he => ⟨(k4 j e he).1, (k4 j e he).2.1, (k4 j e he).2.2.mono (st _)⟩
  | map b clock xs es k1 k2 k3 => exact .map b clock xs es ((hb b (Array.getElem?_eq_some_iff.1 k1).1).trans k1) k2 fun j x e hx he => ⟨(k3 j x e hx he).1.mono (st _), (k3 j x e hx he).2.mono (st _)⟩
  | loop l r ks cs st' p k1 k2 k0 k3 => exact .loop l r ks cs st' p ((hb l (Array.getElem?_eq_some_iff.1 k1).1).trans k1) k2 k0 fun j t c hj hc => (k3 j t c hj hc).mono (st _) (.refl _)
  | gone => exact .gone

/-- The rows of arguments. -/
inductive Lends (ba lo : List Ob) : List AV → List PV → Prop
  | nil : Lends ba lo [] []
  | cons (a : AV) (p : PV) (as : List AV) (ps : List PV) : Lend ba lo a p → Lends ba lo as ps → Lends ba lo (a :: as) (p :: ps)
theorem Lends.out {ba lo : List Ob} {as : List AV} {ps : List PV} (h : Lends ba lo as ps) : as.length = ps.length ∧ ∀ (j : Nat) (p : PV), ps[j]? = some p → ∃ a, as[j]? = some a ∧ Lend ba lo a p := by
  induction h with
  | nil => exact ⟨rfl, fun j p h => by simp at h⟩
  | cons a p as ps h _ ih =>
    refine ⟨by simp [ih.1], fun j q hq => ?_⟩
    cases j with
    | zero => simp at hq; subst hq; exact ⟨a, rfl, h⟩
    | succ j => exact ih.2 j q (by simpa using hq)

theorem callA_lend {f : Nat} {ba lo : List Ob} {as : List AV} {ps : List PV} {r : PV} (h : pureF P f (ps.map .p) (.p r)) (hr : Flat r) (hl : Lends ba lo as ps) :
    callA P f (AV.closes ba.length as) (flat ba lo) (fun r' H' => r' = .p r ∧ H' = flat ba lo) := by
  obtain ⟨h1, h2⟩ := hl.out
  intro μ w xs hi hx
  have hc := h [] [] w xs (inv_nil w) ⟨by rw [hx.1, closes_length, h1, List.length_map], fun j x a hj ha => by
    rw [List.getElem?_map] at ha
    obtain ⟨p, hp, rfl⟩ := Option.map_eq_some_iff.1 ha
    obtain ⟨a, ha, hla⟩ := h2 j p hp
    refine .p _ _ ((hla.close μ w hi x (hx.2 j x _ hj (by rw [closes_get, ha]; rfl))).mono ⟨Nat.le_refl _, fun b _ _ => ⟨fun ⟨i, m, h, _⟩ => by simp at h, rfl⟩⟩)⟩
  refine Calls.mono' hc ?_
  rintro e w' ⟨v, r', H', μ', rfl, ⟨rfl, rfl⟩, g3, g4, g5⟩
  have hkeep : ∀ b, b < w.heap.size → w'.heap[b]? = w.heap[b]? := fun b hb => (g5.stays.2 b hb fun ⟨i, m, h, _⟩ => by simp at h).2
  exact ⟨v, _, _, μ, rfl, ⟨rfl, rfl⟩, hi.kept g5.stays.1 hkeep, .p _ _ (g4.pv.anywhere hr), g5.os, g5.tape, g5.output, .refl μ, g5.stays.1, fun b hb hm => ⟨hm, hkeep b hb⟩⟩

theorem CallVC.lend {f : Nat} {args : List AV} {ps : List PV} {ba lo : List Ob} {K : AV → List Ob → List Ob → Prop} {r : PV} (h : AD.pureF P f (ps.map .p) (.p r)) (hr : Flat r) (hl : Lends ba lo args ps) (k : K (.p r) ba lo) : CallVC P f args ba lo K :=
  .pure (callA_lend h hr hl) k
end
end Go.Proofs.Ytkjidklifmcpnaa.AD
