/- A plainer machine, one: values without addresses, objects that may be written, and when a value of the model stands for one of them. No program in sight. -/
import Derived.Calls
import Derived.RangeFuncNested
import Derived.RangeFuncLeaves
import Derived.RangeFuncCalls
import Derived.OrdersIn
import Derived.TacticsIn
import Derived.Orders
import Derived.Below
import Derived.Laws.Sem
import Derived.Laws.CopyRow
import Derived.Laws.Append
import Derived.Laws.AppendOwn
import Derived.Laws.Tables
import Derived.Laws.Small
import Derived.Laws.BytesString
import Derived.Laws.IdiomStrings
import Derived.Great.BuildSlice
namespace Go.Proofs.YtgdimfogijfmiaaDoor.AD
set_option linter.unusedVariables false

/-- Values that nothing writes any more: with what they hold. -/
inductive PV where
  | undef
  | bool (b : Bool)
  | int (k : IntKind) (n : Int)
  | str (s : ByteArray)
  | agg (cs : List PV)
  | tup (vs : List PV)
  | nils
  | list (sz : Nat) (es : List PV)
  | lent (sz : Nat) (es sp : List PV)
  | nilp
  | ptr (cs : List PV)
  | fn (f : Fn)
  | nilf
  | nilm
  | nili
  | zer
  | emp
  | iface (t : TypeId) (v : PV)
  deriving Inhabited

/-- Which object: one of the call's own, or an elder one. -/
inductive Rf where
  | l (k : Nat)
  | b (id : Nat)
  deriving Inhabited

inductive AV where
  | p (v : PV)
  | ref (r : Rf) (off : Nat)
  | view (r : Rf) (g sz len : Nat)
  | elt (r : Rf) (g sz idx off : Nat)
  | tail (r : Rf) (g sz off len : Nat)
  | mapr (r : Rf)
  | clos (f : Fn) (first cap : List AV)
  | agg (cs : List AV)
  | tup (vs : List AV)
  deriving Inhabited

/-- What is known of an object's place. -/
inductive MI where
  | cells (b : Nat)
  | buf (b : Option Nat) (g n : Nat)
  | map (b : Nat)
  | gone
  deriving Inhabited

def MI.block? : MI → Option Nat
  | .cells b => some b
  | .buf b _ _ => b
  | .map b => some b
  | .gone => none

/-- How a range over a function stands: between two rounds, in one, left by a jump, over. -/
inductive LSt where
  | ready
  | busy
  | done (e : Exit)
  | over

inductive Ob where
  | cells (cs : List AV)
  | buf (g sz : Nat) (es : List PV)
  | map (es : List (PV × PV))
  | mapA (ks : List PV) (vs : List AV)
  | bufA (g : Nat) (es : List AV)
  | loop (l : Nat) (r : Loop) (ks : List Nat) (cs : List AV) (st : LSt)
  | gone
  deriving Inhabited

def PV.scalar : PV → Bool
  | .agg _ | .tup _ | .undef => false
  | _ => true

inductive VP (M : Nat → Prop) (w : World) : Value → PV → Prop
  | undef (v : Value) : VP M w v .undef
  | bool (b : Bool) : VP M w (.bool b) (.bool b)
  | int (k : IntKind) (n : Int) : VP M w (.int k n) (.int k n)
  | str (s : ByteArray) : VP M w (.string s) (.str s)
  | agg (xs : Array Value) (cs : List PV) : xs.size = cs.length → (∀ (j : Nat) (x : Value) (c : PV), xs[j]? = some x → cs[j]? = some c → VP M w x c) →
      (∀ (j : Nat) (x : Value), xs[j]? = some x → x.oneCell' = true) → VP M w (.agg xs) (.agg cs)
  | tup (xs : Array Value) (cs : List PV) : xs.size = cs.length → (∀ (j : Nat) (x : Value) (c : PV), xs[j]? = some x → cs[j]? = some c → VP M w x c) → VP M w (.tuple xs) (.tup cs)
  | nils : VP M w (.slice none 0 0) .nils
  | list0 (sz : Nat) (A : Option Addr) (cap : Nat) : (A = none → cap = 0) → VP M w (.slice A 0 cap) (.list sz [])
  | list (b off cap sz : Nat) (es : List PV) (c : Nat → Value) : ¬ M b → b < w.heap.size → es.length ≤ cap →
      (∀ (j : Nat) (e : PV), es[j]? = some e → (c j).cells.size = sz) →
      (∀ (j : Nat) (e : PV), es[j]? = some e → ∀ (i : Nat) (x : Value), (c j).cells[i]? = some x → x.oneCell' = true ∧ w.cell? ⟨b, off + (j * sz + i), none⟩ = some x) →
      (∀ (j : Nat) (e : PV), es[j]? = some e → VP M w (c j) e) → VP M w (.slice (some ⟨b, off, none⟩) es.length cap) (.list sz es)
  | lent (b off cap sz : Nat) (es sp : List PV) (c : Nat → Value) : ¬ M b → b < w.heap.size → (es ++ sp).length ≤ cap →
      (∀ (j : Nat) (e : PV), (es ++ sp)[j]? = some e → (c j).cells.size = sz) →
      (∀ (j : Nat) (e : PV), (es ++ sp)[j]? = some e → ∀ (i : Nat) (x : Value), (c j).cells[i]? = some x → x.oneCell' = true ∧ w.cell? ⟨b, off + (j * sz + i), none⟩ = some x) →
      (∀ (j : Nat) (e : PV), (es ++ sp)[j]? = some e → VP M w (c j) e) → VP M w (.slice (some ⟨b, off, none⟩) es.length cap) (.lent sz es sp)
  | nilp : VP M w (.pointer none) .nilp
  | ptr (b off : Nat) (cs : List PV) (c : Nat → Value) : ¬ M b → b < w.heap.size → (∀ (j : Nat) (e : PV), cs[j]? = some e → (c j).oneCell' = true ∧ w.cell? ⟨b, off + j, none⟩ = some (c j)) →
      (∀ (j : Nat) (e : PV), cs[j]? = some e → VP M w (c j) e) → VP M w (.pointer (some ⟨b, off, none⟩)) (.ptr cs)
  | fn (f : Fn) : VP M w (.func f #[] #[]) (.fn f)
  | nilf : VP M w .nilFunc .nilf
  | nilm : VP M w (.map none) .nilm
  | nili : VP M w .nilIface .nili
  | zer (A : Addr) (cap : Nat) : VP M w (.slice (some A) 0 cap) .zer
  | emp (A : Option Addr) : VP M w (.slice A 0 0) .emp
  | iface (t : TypeId) (x : Value) (v : PV) : VP M w x v → VP M w (.iface t x) (.iface t v)

/-- What was never to be written is as it was, and is never to be written. -/
def Stays (M : Nat → Prop) (w : World) (M' : Nat → Prop) (w' : World) : Prop :=
  w.heap.size ≤ w'.heap.size ∧ ∀ b, b < w.heap.size → ¬ M b → ¬ M' b ∧ w'.heap[b]? = w.heap[b]?

theorem Stays.refl (M : Nat → Prop) (w : World) : Stays M w M w := ⟨Nat.le_refl _, fun _ _ h => ⟨h, rfl⟩⟩
theorem Stays.trans {M M' M'' : Nat → Prop} {w w' w'' : World} (h : Stays M w M' w') (k : Stays M' w' M'' w'') : Stays M w M'' w'' :=
  ⟨Nat.le_trans h.1 k.1, fun b hb hm => by
    obtain ⟨h1, h2⟩ := h.2 b hb hm
    obtain ⟨k1, k2⟩ := k.2 b (Nat.lt_of_lt_of_le hb h.1) h1
    exact ⟨k1, k2.trans h2⟩⟩

theorem cell_same {w w' : World} {a : Addr} (h : w'.heap[a.block]? = w.heap[a.block]?) : w'.cell? a = w.cell? a := by
  unfold World.cell?; rw [h]

theorem VP.mono {M M' : Nat → Prop} {w w' : World} (hs : Stays M w M' w') {v : Value} {e : PV} (h : VP M w v e) : VP M' w' v e := by
  induction h with
  | undef v => exact .undef v
  | bool b => exact .bool b
  | int k n => exact .int k n
  | str s => exact .str s
  | agg xs cs h1 _ h3 ih => exact .agg xs cs h1 ih h3
  | tup xs cs h1 _ ih => exact .tup xs cs h1 ih
  | nils => exact .nils
  | list0 sz A cap h => exact .list0 sz A cap h
  | list b off cap sz es c h1 h2 h3 h4 h5 _ ih =>
    obtain ⟨k1, k2⟩ := hs.2 b h2 h1
    exact .list b off cap sz es c k1 (Nat.lt_of_lt_of_le h2 hs.1) h3 h4 (fun j e he i x hx => ⟨(h5 j e he i x hx).1, (cell_same k2).trans (h5 j e he i x hx).2⟩) ih
  | lent b off cap sz es sp c h1 h2 h3 h4 h5 _ ih =>
    obtain ⟨k1, k2⟩ := hs.2 b h2 h1
    exact .lent b off cap sz es sp c k1 (Nat.lt_of_lt_of_le h2 hs.1) h3 h4 (fun j e he i x hx => ⟨(h5 j e he i x hx).1, (cell_same k2).trans (h5 j e he i x hx).2⟩) ih
  | nilp => exact .nilp
  | ptr b off cs c h1 h2 h3 _ ih =>
    obtain ⟨k1, k2⟩ := hs.2 b h2 h1
    exact .ptr b off cs c k1 (Nat.lt_of_lt_of_le h2 hs.1) (fun j e he => ⟨(h3 j e he).1, (cell_same k2).trans (h3 j e he).2⟩) ih
  | fn f => exact .fn f
  | nilf => exact .nilf
  | nilm => exact .nilm
  | nili => exact .nili
  | zer A cap => exact .zer A cap
  | emp A => exact .emp A
  | iface t x v _ ih => exact .iface t x v ih

theorem VP.oneCell {M : Nat → Prop} {w : World} {v : Value} {e : PV} (h : VP M w v e) (hs : e.scalar = true) : v.oneCell' = true := by
  cases h <;> first | rfl | cases hs

theorem cells_of_oneCell {v : Value} (h : v.oneCell' = true) : v.cells = #[v] := by
  cases v <;> first | rfl | cases h

structure Ctx where
  M : Nat → Prop
  n0 : Nat
  μ : List MI

/-- The number of an object. -/
def Ctx.at (Γ : Ctx) : Rf → Option MI
  | .l k => Γ.μ[Γ.n0 + k]?
  | .b id => if id < Γ.n0 then Γ.μ[id]? else none

inductive VA (Γ : Ctx) (w : World) : Value → AV → Prop
  | p (v : Value) (e : PV) : VP Γ.M w v e → VA Γ w v (.p e)
  | ref (r : Rf) (off b : Nat) : Γ.at r = some (.cells b) → VA Γ w (.pointer (some ⟨b, off, none⟩)) (.ref r off)
  | view0 (r : Rf) (g sz n : Nat) : Γ.at r = some (.buf none g n) → VA Γ w (.slice none 0 0) (.view r g sz 0)
  | view (r : Rf) (g sz n b len cap : Nat) : Γ.at r = some (.buf (some b) g n) → len ≤ cap → cap * sz = n → VA Γ w (.slice (some ⟨b, 0, none⟩) len cap) (.view r g sz len)
  | viewOld (v : Value) (r : Rf) (g sz len : Nat) (b : Option Nat) (g' n : Nat) : Γ.at r = some (.buf b g' n) → g < g' → v.oneCell' = true → VA Γ w v (.view r g sz len)
  | viewGone (v : Value) (r : Rf) (g sz len : Nat) : Γ.at r = some .gone → v.oneCell' = true → VA Γ w v (.view r g sz len)
  | elt (r : Rf) (g sz n b idx off : Nat) : Γ.at r = some (.buf (some b) g n) → VA Γ w (.pointer (some ⟨b, idx * sz + off, none⟩)) (.elt r g sz idx off)
  | eltOld (v : Value) (r : Rf) (g sz idx off : Nat) (b : Option Nat) (g' n : Nat) : Γ.at r = some (.buf b g' n) → g < g' → v.oneCell' = true → VA Γ w v (.elt r g sz idx off)
  | eltGone (v : Value) (r : Rf) (g sz idx off : Nat) : Γ.at r = some .gone → v.oneCell' = true → VA Γ w v (.elt r g sz idx off)
  | tail (r : Rf) (g sz n b off len cap : Nat) : Γ.at r = some (.buf (some b) g n) → len ≤ cap → (off + cap) * sz = n → VA Γ w (.slice (some ⟨b, off * sz, none⟩) len cap) (.tail r g sz off len)
  | tail0 (r : Rf) (g sz n off : Nat) (b : Option Nat) (A : Option Addr) : Γ.at r = some (.buf b g n) → VA Γ w (.slice A 0 0) (.tail r g sz off 0)
  | tailOld (v : Value) (r : Rf) (g sz off len : Nat) (b : Option Nat) (g' n : Nat) : Γ.at r = some (.buf b g' n) → g < g' → v.oneCell' = true → VA Γ w v (.tail r g sz off len)
  | tailGone (v : Value) (r : Rf) (g sz off len : Nat) : Γ.at r = some .gone → v.oneCell' = true → VA Γ w v (.tail r g sz off len)
  | mapr (r : Rf) (b : Nat) : Γ.at r = some (.map b) → VA Γ w (.map (some b)) (.mapr r)
  | maprGone (v : Value) (r : Rf) : Γ.at r = some .gone → v.oneCell' = true → VA Γ w v (.mapr r)
  | clos (f : Fn) (xs ys : Array Value) (as bs : List AV) : xs.size = as.length → ys.size = bs.length →
      (∀ (j : Nat) (x : Value) (c : AV), xs[j]? = some x → as[j]? = some c → VA Γ w x c) → (∀ (j : Nat) (x : Value) (c : AV), ys[j]? = some x → bs[j]? = some c → VA Γ w x c) →
      VA Γ w (.func f xs ys) (.clos f as bs)
  | agg (xs : Array Value) (cs : List AV) : xs.size = cs.length → (∀ (j : Nat) (x : Value) (c : AV), xs[j]? = some x → cs[j]? = some c → VA Γ w x c) →
      (∀ (j : Nat) (x : Value), xs[j]? = some x → x.oneCell' = true) → VA Γ w (.agg xs) (.agg cs)
  | tup (xs : Array Value) (cs : List AV) : xs.size = cs.length → (∀ (j : Nat) (x : Value) (c : AV), xs[j]? = some x → cs[j]? = some c → VA Γ w x c) → VA Γ w (.tuple xs) (.tup cs)

inductive MI.le : MI → MI → Prop
  | refl (m : MI) : MI.le m m
  | goneB (b : Option Nat) (g n : Nat) : MI.le (.buf b g n) .gone
  | goneM (b : Nat) : MI.le (.map b) .gone
  | buf (b : Option Nat) (g n : Nat) (b' : Option Nat) (g' n' : Nat) : g < g' → MI.le (.buf b g n) (.buf b' g' n')

theorem MI.le.trans {a b c : MI} (h : MI.le a b) (k : MI.le b c) : MI.le a c := by
  cases h with
  | refl => exact k
  | goneB => cases k <;> exact .goneB _ _ _
  | goneM => cases k <;> exact .goneM _
  | buf b g n b' g' n' hg => cases k with
    | refl => exact .buf _ _ _ _ _ _ hg
    | goneB => exact .goneB _ _ _
    | buf _ _ _ b2 g2 n2 h2 => exact .buf _ _ _ _ _ _ (Nat.lt_trans hg h2)

/-- Places are known as before, or not at all any more. -/
def Above (μ μ' : List MI) : Prop := ∀ (i : Nat) (m : MI), μ[i]? = some m → ∃ m', μ'[i]? = some m' ∧ MI.le m m'

theorem Above.refl (μ : List MI) : Above μ μ := fun _ m h => ⟨m, h, .refl m⟩
theorem Above.trans {a b c : List MI} (h : Above a b) (k : Above b c) : Above a c := fun i m hm => by
  obtain ⟨m', h1, h2⟩ := h i m hm
  obtain ⟨m'', k1, k2⟩ := k i m' h1
  exact ⟨m'', k1, h2.trans k2⟩

theorem Above.at {M M' : Nat → Prop} {n0 : Nat} {μ μ' : List MI} (h : Above μ μ') {r : Rf} {m : MI} (hm : Ctx.at ⟨M, n0, μ⟩ r = some m) : ∃ m', Ctx.at ⟨M', n0, μ'⟩ r = some m' ∧ MI.le m m' := by
  cases r with
  | l k => exact h _ _ hm
  | b id =>
    simp only [Ctx.at] at hm ⊢
    split at hm
    · rename_i hlt; rw [if_pos hlt]; exact h _ _ hm
    · cases hm

theorem VA.mono {M M' : Nat → Prop} {n0 : Nat} {μ μ' : List MI} {w w' : World} (hs : Stays M w M' w') (ha : Above μ μ') {v : Value} {a : AV} (h : VA ⟨M, n0, μ⟩ w v a) : VA ⟨M', n0, μ'⟩ w' v a := by
  induction h with
  | p v e h => exact .p v e (h.mono hs)
  | ref r off b h =>
    obtain ⟨m', h1, h2⟩ := ha.at (M' := M') h
    cases h2 with
    | refl => exact .ref r off b h1
  | view0 r g sz n h =>
    obtain ⟨m', h1, h2⟩ := ha.at (M' := M') h
    cases h2 with
    | refl => exact .view0 r g sz n h1
    | goneB => exact .viewGone _ r g sz 0 h1 rfl
    | buf _ _ _ b' g' n' hg => exact .viewOld _ r g sz 0 b' g' n' h1 hg rfl
  | view r g sz n b len cap h hl hc =>
    obtain ⟨m', h1, h2⟩ := ha.at (M' := M') h
    cases h2 with
    | refl => exact .view r g sz n b len cap h1 hl hc
    | goneB => exact .viewGone _ r g sz len h1 rfl
    | buf _ _ _ b' g' n' hg => exact .viewOld _ r g sz len b' g' n' h1 hg rfl
  | viewOld v r g sz len b g' n h hg h0 =>
    obtain ⟨m', h1, h2⟩ := ha.at (M' := M') h
    cases h2 with
    | refl => exact .viewOld v r g sz len b g' n h1 hg h0
    | goneB => exact .viewGone _ r g sz len h1 h0
    | buf _ _ _ b2 g2 n2 h2 => exact .viewOld _ r g sz len b2 g2 n2 h1 (Nat.lt_trans hg h2) h0
  | viewGone v r g sz len h h0 =>
    obtain ⟨m', h1, h2⟩ := ha.at (M' := M') h
    cases h2 <;> exact .viewGone _ r g sz len h1 h0
  | elt r g sz n b idx off h =>
    obtain ⟨m', h1, h2⟩ := ha.at (M' := M') h
    cases h2 with
    | refl => exact .elt r g sz n b idx off h1
    | goneB => exact .eltGone _ r g sz idx off h1 rfl
    | buf _ _ _ b' g' n' hg => exact .eltOld _ r g sz idx off b' g' n' h1 hg rfl
  | eltOld v r g sz idx off b g' n h hg h0 =>
    obtain ⟨m', h1, h2⟩ := ha.at (M' := M') h
    cases h2 with
    | refl => exact .eltOld v r g sz idx off b g' n h1 hg h0
    | goneB => exact .eltGone _ r g sz idx off h1 h0
    | buf _ _ _ b2 g2 n2 h2 => exact .eltOld _ r g sz idx off b2 g2 n2 h1 (Nat.lt_trans hg h2) h0
  | eltGone v r g sz idx off h h0 =>
    obtain ⟨m', h1, h2⟩ := ha.at (M' := M') h
    cases h2 <;> exact .eltGone _ r g sz idx off h1 h0
  | tail r g sz n b off len cap h hl hc =>
    obtain ⟨m', h1, h2⟩ := ha.at (M' := M') h
    cases h2 with
    | refl => exact .tail r g sz n b off len cap h1 hl hc
    | goneB => exact .tailGone _ r g sz off len h1 rfl
    | buf _ _ _ b' g' n' hg => exact .tailOld _ r g sz off len b' g' n' h1 hg rfl
  | tail0 r g sz n off b A h =>
    obtain ⟨m', h1, h2⟩ := ha.at (M' := M') h
    cases h2 with
    | refl => exact .tail0 r g sz n off b A h1
    | goneB => exact .tailGone _ r g sz off 0 h1 rfl
    | buf _ _ _ b' g' n' hg => exact .tailOld _ r g sz off 0 b' g' n' h1 hg rfl
  | tailOld v r g sz off len b g' n h hg h0 =>
    obtain ⟨m', h1, h2⟩ := ha.at (M' := M') h
    cases h2 with
    | refl => exact .tailOld v r g sz off len b g' n h1 hg h0
    | goneB => exact .tailGone _ r g sz off len h1 h0
    | buf _ _ _ b2 g2 n2 h2 => exact .tailOld _ r g sz off len b2 g2 n2 h1 (Nat.lt_trans hg h2) h0
  | tailGone v r g sz off len h h0 =>
    obtain ⟨m', h1, h2⟩ := ha.at (M' := M') h
    cases h2 <;> exact .tailGone _ r g sz off len h1 h0
  | mapr r b h =>
    obtain ⟨m', h1, h2⟩ := ha.at (M' := M') h
    cases h2 with
    | refl => exact .mapr r b h1
    | goneM => exact .maprGone _ r h1 rfl
  | maprGone v r h h0 =>
    obtain ⟨m', h1, h2⟩ := ha.at (M' := M') h
    cases h2 <;> exact .maprGone _ r h1 h0
  | clos f xs ys as bs h1 h2 _ _ ih1 ih2 => exact .clos f xs ys as bs h1 h2 ih1 ih2
  | agg xs cs h1 _ h3 ih => exact .agg xs cs h1 ih h3
  | tup xs cs h1 _ ih => exact .tup xs cs h1 ih

/-- Is an abstract value that of one cell? -/
def AV.scalar : AV → Bool
  | .p v => v.scalar
  | .agg _ | .tup _ => false
  | _ => true

theorem VA.oneCell {Γ : Ctx} {w : World} {v : Value} {a : AV} (h : VA Γ w v a) (hs : a.scalar = true) : v.oneCell' = true := by
  cases h with
  | p v e h => exact h.oneCell hs
  | viewOld _ _ _ _ _ _ _ _ _ _ h0 => exact h0
  | viewGone _ _ _ _ _ _ h0 => exact h0
  | eltOld _ _ _ _ _ _ _ _ _ _ _ h0 => exact h0
  | eltGone _ _ _ _ _ _ _ h0 => exact h0
  | tailOld _ _ _ _ _ _ _ _ _ _ _ h0 => exact h0
  | tailGone _ _ _ _ _ _ _ h0 => exact h0
  | maprGone _ _ _ h0 => exact h0
  | agg => cases hs
  | tup => cases hs
  | _ => rfl

/-- The blocks of objects. -/
def blocks (μ : List MI) (b : Nat) : Prop := ∃ (i : Nat) (m : MI), μ[i]? = some m ∧ m.block? = some b

def codeOf : Exit → Code
  | .exit id => .exit id
  | .goto l => .goto l
  | _ => .ret
def LSt.state : LSt → LoopState
  | .ready => .ready
  | .busy => .busy
  | .done _ => .done
  | .over => .exhausted
def LSt.pend (p : Option Code) : LSt → Prop
  | .ready => p = none
  | .busy => p = none
  | .done e => p = some (codeOf e)
  | .over => True

/-- An object lies where it is said to lie. -/
inductive ObOk (Γ : Ctx) (w : World) : MI → Ob → Prop
  | cells (b : Nat) (xs : Array Value) (t : TypeId) (cs : List AV) : w.heap[b]? = some (.cells xs t (0, 0)) → xs.size = cs.length → (∀ (j : Nat) (x : Value) (c : AV), xs[j]? = some x → cs[j]? = some c → VA Γ w x c ∧ x.oneCell' = true) → ObOk Γ w (.cells b) (.cells cs)
  | buf0 (g sz n : Nat) : ObOk Γ w (.buf none g n) (.buf g sz [])
  | buf (b g n sz : Nat) (xs : Array Value) (t : TypeId) (es : List PV) (c : Nat → Value) : w.heap[b]? = some (.cells xs t (0, 0)) → xs.size = n → es.length * sz ≤ n →
      (∀ (j : Nat) (e : PV), es[j]? = some e → (c j).cells.size = sz ∧ (∀ (i : Nat) (x : Value), (c j).cells[i]? = some x → x.oneCell' = true ∧ xs[j * sz + i]? = some x) ∧ VP Γ.M w (c j) e) → ObOk Γ w (.buf (some b) g n) (.buf g sz es)
  | map (b clock : Nat) (xs : Array MapEntry) (es : List (PV × PV)) : w.heap[b]? = some (.map xs clock) → xs.size = es.length →
      (∀ (j : Nat) (x : MapEntry) (e : PV × PV), xs[j]? = some x → es[j]? = some e → VP Γ.M w x.key e.1 ∧ VP Γ.M w x.val e.2) → clock = xs.size → (∀ (j : Nat) (x : MapEntry), xs[j]? = some x → x.born = j) → ObOk Γ w (.map b) (.map es)
  | mapA (b clock : Nat) (xs : Array MapEntry) (ks : List PV) (vs : List AV) : w.heap[b]? = some (.map xs clock) → xs.size = ks.length → ks.length = vs.length →
      (∀ (j : Nat) (x : MapEntry) (e : PV), xs[j]? = some x → ks[j]? = some e → VP Γ.M w x.key e) → (∀ (j : Nat) (x : MapEntry) (c : AV), xs[j]? = some x → vs[j]? = some c → VA Γ w x.val c) → ObOk Γ w (.map b) (.mapA ks vs)
  | bufA (b g n : Nat) (xs : Array Value) (t : TypeId) (es : List AV) : w.heap[b]? = some (.cells xs t (0, 0)) → xs.size = n → es.length ≤ n →
      (∀ (j : Nat) (x : Value) (c : AV), xs[j]? = some x → es[j]? = some c → VA Γ w x c ∧ x.oneCell' = true) → ObOk Γ w (.buf (some b) g n) (.bufA g es)
  | loop (l : Nat) (r : Loop) (ks : List Nat) (cs : List AV) (st : LSt) (p : Option Code) : w.heap[l]? = some (.loop { r with state := st.state, pending := p }) → st.pend p → ks.length = cs.length → (∀ (j t : Nat) (c : AV), ks[j]? = some t → cs[j]? = some c → VA Γ w (r.tmps.getD t undef) c) →
      ObOk Γ w (.cells l) (.loop l r ks cs st)
  | gone : ObOk Γ w .gone .gone

structure Inv (μ : List MI) (w : World) (base loc : List Ob) : Prop where
  len : μ.length = base.length + loc.length
  apart : ∀ (i j : Nat) (m m' : MI) (b : Nat), μ[i]? = some m → μ[j]? = some m' → m.block? = some b → m'.block? = some b → i = j
  bases : ∀ (i : Nat) (o : Ob), base[i]? = some o → ∃ m, μ[i]? = some m ∧ ObOk ⟨blocks μ, base.length, μ.take base.length⟩ w m o
  locs : ∀ (k : Nat) (o : Ob), loc[k]? = some o → ∃ m, μ[base.length + k]? = some m ∧ ObOk ⟨blocks μ, base.length, μ⟩ w m o

/-- From a world to a later one. -/
structure Le (μ : List MI) (w : World) (μ' : List MI) (w' : World) : Prop where
  os : w'.os = w.os
  tape : w'.tape = w.tape
  output : w'.output = w.output
  above : Above μ μ'
  stays : Stays (blocks μ) w (blocks μ') w'

theorem Le.refl (μ : List MI) (w : World) : Le μ w μ w := ⟨rfl, rfl, rfl, .refl μ, .refl _ w⟩
theorem Le.trans {μ μ' μ'' : List MI} {w w' w'' : World} (h : Le μ w μ' w') (k : Le μ' w' μ'' w'') : Le μ w μ'' w'' :=
  ⟨k.os.trans h.os, k.tape.trans h.tape, k.output.trans h.output, h.above.trans k.above, h.stays.trans k.stays⟩

/-- The values of two rows stand for one another. -/
def VAs (Γ : Ctx) (w : World) (xs : Array Value) (as : List AV) : Prop := xs.size = as.length ∧ ∀ (j : Nat) (x : Value) (a : AV), xs[j]? = some x → as[j]? = some a → VA Γ w x a

/-- THE CONTRACT OF A CALL: on abstract values and objects. -/
def callA (P : Program) (f : FuncId) (args : List AV) (H : List Ob) (Q : AV → List Ob → Prop) : Prop :=
  ∀ (μ : List MI) (w : World) (xs : Array Value), Inv μ w H [] → VAs ⟨blocks μ, H.length, μ⟩ w xs args →
    Calls P f xs w fun e w' => ∃ (v : Value) (r : AV) (H' : List Ob) (μ' : List MI), e = .returned v ∧ Q r H' ∧ Inv μ' w' H' [] ∧ VA ⟨blocks μ', H'.length, μ'⟩ w' v r ∧ Le μ w μ' w'

theorem Calls.mono' {P : Program} {f : FuncId} {args : Array Value} {w : World} {R R' : Ending → World → Prop} (h : Calls P f args w R) (k : ∀ e w, R e w → R' e w) : Calls P f args w R' :=
  Calls.mono h k

theorem callA.mono {P : Program} {f : FuncId} {args : List AV} {H : List Ob} {Q Q' : AV → List Ob → Prop} (h : callA P f args H Q) (k : ∀ r H', Q r H' → Q' r H') : callA P f args H Q' := by
  intro μ w xs hi hx
  refine Calls.mono' (h μ w xs hi hx) ?_
  rintro e w' ⟨v, r, H', μ', h1, h2, h3⟩
  exact ⟨v, r, H', μ', h1, k _ _ h2, h3⟩

/-- A call that leaves all objects alone and answers one thing. -/
def pureF (P : Program) (f : FuncId) (args : List AV) (r : AV) : Prop := ∀ H, callA P f args H fun r' H' => r' = r ∧ H' = H

end Go.Proofs.YtgdimfogijfmiaaDoor.AD

namespace Go.Proofs.YtgdimfogijfmiaaDoor.AD
set_option linter.unusedVariables false

inductive Rv where
  | t (n : Nat)
  | v (a : AV)
  deriving Inhabited

/-- What a cell holds. -/
inductive SK where
  | int (k : IntKind)
  | str
  | bool
  deriving Inhabited, DecidableEq

inductive IOp where
  | mv (x : Rv)
  | mvS (x : Rv)
  | pick (c a b : Rv)
  | bin (op : BinOp) (x y : Rv)
  | eqb (neg : Bool) (x y : Rv)
  | eqs (neg : Bool) (ks : List SK) (x y : Rv)
  | isNil (neg : Bool) (x : Rv)
  | not (x : Rv)
  | neg (x : Rv)
  | conv (k : IntKind) (x : Rv)
  | toBytes (x : Rv)
  | ofBytes (x : Rv)
  | alloc (zero : List PV)
  | box (x : Rv)
  | build (zero : List PV) (parts : List (Nat × Nat × Rv))
  | lit (own : Bool) (sz : Nat) (zero : PV) (len : Nat) (parts : List (Nat × Rv))
  | load (n : Option Nat) (a : Rv)
  | store (n : Nat) (a x : Rv)
  | nilck (x : Rv)
  | fieldA (off : Nat) (a : Rv)
  | elemA (sz : Nat) (x i : Rv)
  | arrA (sz len : Nat) (x i : Rv)
  | fld (off : Nat) (n : Option Nat) (x : Rv)
  | idxA (sz len : Nat) (n : Option Nat) (x i : Rv)
  | idxS (x i : Rv)
  | cutS (x : Rv) (lo hi : Option Rv)
  | cutL (sz : Nat) (x : Rv) (lo hi mx : Option Rv)
  | len (x : Rv)
  | lenS (x : Rv)
  | app (sz bytes : Nat) (x y : Rv)
  | appS (x y : Rv)
  | max2 (x y : Rv)
  | min2 (x y : Rv)
  | mkfn (f : Fn) (first cap : List Rv)
  | call (f : Nat) (args : List Rv)
  | callv (x : Rv) (args : List Rv)
  | ext (x : Rv) (i : Nat)
  | mkmap
  | look (kk : Option IntKind) (zero : PV) (ok : Bool) (x i : Rv)
  | mset (kk : Option IntKind) (x i v : Rv)
  | mk (sz bytes : Nat) (zero : PV) (len cap : Rv)
  | xcall (f : Nat) (args : List Rv)
  | callE (f : Nat) (args : List Rv)
  | nilb (sz : Nat)
  | callP (f : Nat) (args : List Rv)
  | callvP (x : Rv) (args : List Rv)
  | throw (x : Rv)
  | mkI (t : TypeId) (x : Rv)
  | isNilI (neg : Bool) (x : Rv)
  | tas (t : TypeId) (x : Rv)
  | litZ
  | boxF (x : Rv)
  | isNilS (neg : Bool) (x : Rv)
  | mkmapA
  | mkmapH (x : Rv)
  | mdel (kk : Option IntKind) (x i : Rv)
  | ment (kk : Option IntKind) (zero : PV) (x i : Rv)
  | msto (x st v : Rv)
  | mkA (bytes : Nat) (zero : PV) (len cap : Rv)
  | clr (sz : Nat) (zero : PV) (x : Rv)
  | appF (sz bytes : Nat) (x y : Rv)
  | bad
  deriving Inhabited

structure IO_ where
  dst : Option Nat
  guard : Option (Nat × Bool)
  split : Bool
  op : IOp
  deriving Inhabited

inductive IC where
  | skip
  | ops (l : List IO_)
  | dops (l : List IO_)
  | eops (l : List IO_) (bs : List Nat)
  | seq (a b : IC)
  | cond (c : Rv) (a b : IC)
  | cut (ks : List Nat) (a b : IC)
  | block (id : Nat) (a : IC)
  | loop (ks : List Nat) (a : IC)
  | exit (id : Nat)
  | ret
  | bad
  | scope (a : IC)
  | lab (l : Nat) (x a : IC)
  | label (l : Nat)
  | goto (l : Nat) (ks : List Nat)
  | rangeF (ks : List Nat) (x : Rv) (ps : List Nat) (a b : IC)
  | pops (l : List IO_)
  | qops (l : List IO_) (bs : List Nat)
  deriving Inhabited

/-- Without the marks. -/
def IC.bare : IC → IC
  | .seq a b => .seq a.bare b.bare
  | .cut _ a b => .seq a.bare b.bare
  | .cond c a b => .cond c a.bare b.bare
  | .block id a => .block id a.bare
  | .loop _ a => .loop [] a.bare
  | .scope a => .scope a.bare
  | .lab l x a => .lab l x.bare a.bare
  | .goto l _ => .goto l []
  | .rangeF _ x ps a b => .rangeF [] x ps a.bare b.bare
  | c => c
/-- No range over a function in it. -/
def IC.noR : IC → Bool
  | .seq a b | .cut _ a b | .cond _ a b | .lab _ a b => a.noR && b.noR
  | .block _ a | .loop _ a | .scope a => a.noR
  | .rangeF .. => false
  | _ => true

abbrev FR := List (Nat × AV)

/-! ### reading and writing, one behind the other -/

def getK : FR → Nat → (AV → Prop) → Prop
  | [], _, k => k (.p .undef)
  | (u, x) :: r, t, k => bif Nat.beq u t then k x else getK r t k

def setK : FR → Nat → AV → (FR → Prop) → Prop
  | [], t, v, k => k [(t, v)]
  | (u, x) :: r, t, v, k => bif Nat.beq u t then k ((u, v) :: r) else setK r t v fun r' => k ((u, x) :: r')

/-- Some places alone. -/
def projK : List Nat → FR → (FR → Prop) → Prop
  | [], _, k => k []
  | t :: r, fr, k => getK fr t fun v => projK r fr fun fr' => k ((t, v) :: fr')

def evK (x : Rv) (fr : FR) (k : AV → Prop) : Prop :=
  match x with
  | .t n => getK fr n k
  | .v a => k a

def evsK : List Rv → FR → (List AV → Prop) → Prop
  | [], _, k => k []
  | x :: r, fr, k => evK x fr fun a => evsK r fr fun as => k (a :: as)

def evOK (x : Option Rv) (fr : FR) (k : Option AV → Prop) : Prop :=
  match x with
  | none => k none
  | some x => evK x fr fun a => k (some a)

def dropK {α : Type} : Nat → List α → (List α → Prop) → Prop
  | 0, l, k => k l
  | n + 1, _ :: r, k => dropK n r k
  | _ + 1, [], _ => False

def takeK {α : Type} : Nat → List α → (List α → Prop) → Prop
  | 0, _, k => k []
  | n + 1, x :: r, k => takeK n r fun r' => k (x :: r')
  | _ + 1, [], _ => False

def atK {α : Type} : Nat → List α → (α → Prop) → Prop
  | 0, x :: _, k => k x
  | n + 1, _ :: r, k => atK n r k
  | _, [], _ => False

def setAtK {α : Type} : Nat → List α → α → (List α → Prop) → Prop
  | 0, _ :: r, v, k => k (v :: r)
  | n + 1, x :: r, v, k => setAtK n r v fun r' => k (x :: r')
  | _, [], _, _ => False

def spliceK {α : Type} : Nat → List α → List α → (List α → Prop) → Prop
  | n + 1, vs, x :: r, k => spliceK n vs r fun r' => k (x :: r')
  | 0, v :: vs, _ :: r, k => spliceK 0 vs r fun r' => k (v :: r')
  | 0, [], r, k => k r
  | _, _, [], _ => False

def pushK {α : Type} : List α → α → (Nat → List α → Prop) → Prop
  | [], v, k => k 0 [v]
  | x :: r, v, k => pushK r v fun n r' => k (n + 1) (x :: r')

def allPK : List AV → (List PV → Prop) → Prop → Prop
  | [], k, _ => k []
  | .p c :: r, k, e => allPK r (fun cs => k (c :: cs)) e
  | _ :: _, _, e => e

def mkAggK (cs : List AV) (k : AV → Prop) : Prop := allPK cs (fun ps => k (.p (.agg ps))) (k (.agg cs))
def mkTupK (cs : List AV) (k : AV → Prop) : Prop := allPK cs (fun ps => k (.p (.tup ps))) (k (.tup cs))

def upPK : List PV → (List AV → Prop) → Prop
  | [], k => k []
  | c :: r, k => upPK r fun as => k (.p c :: as)

/-- The cells of a value, each of which is one cell. -/
def scalarsK : List AV → (List AV → Prop) → Prop
  | [], k => k []
  | a :: r, k => match a.scalar with
    | true => scalarsK r fun r' => k (a :: r')
    | false => False

def cellsK (v : AV) (k : List AV → Prop) : Prop :=
  match v with
  | .p (.agg cs) => upPK cs fun as => scalarsK as k
  | .agg cs => scalarsK cs k
  | v => scalarsK [v] k

def cellsPK (e : PV) (k : List PV → Prop) : Prop :=
  match e with
  | .agg cs => k cs
  | .undef => False
  | .tup _ => False
  | e => k [e]

def headK {α : Type} (l : List α) (k : α → Prop) : Prop :=
  match l with
  | x :: _ => k x
  | [] => False

def readPK (n : Option Nat) (cs : List PV) (k : AV → Prop) : Prop :=
  match n with
  | none => headK cs fun c => k (.p c)
  | some n => takeK n cs fun l => k (.p (.agg l))

def readAK (n : Option Nat) (cs : List AV) (k : AV → Prop) : Prop :=
  match n with
  | none => headK cs k
  | some n => takeK n cs fun l => mkAggK l k

def AV.noL : AV → Bool
  | .p _ => true
  | .ref (.b _) _ | .view (.b _) _ _ _ | .elt (.b _) _ _ _ _ | .mapr (.b _) | .tail (.b _) _ _ _ _ => true
  | _ => false

def noLs : List AV → Bool
  | [] => true
  | a :: r => a.noL && noLs r

/-- None of the call's own objects from a number on. -/
def Rf.lowL (n : Nat) : Rf → Bool
  | .l k => Nat.blt k n
  | .b _ => true
mutual
def AV.lowL (n : Nat) : AV → Bool
  | .p _ => true
  | .ref r _ => r.lowL n
  | .view r _ _ _ => r.lowL n
  | .elt r _ _ _ _ => r.lowL n
  | .tail r _ _ _ _ => r.lowL n
  | .mapr r => r.lowL n
  | .clos _ as bs => AV.lowsL n as && AV.lowsL n bs
  | .agg cs => AV.lowsL n cs
  | .tup cs => AV.lowsL n cs
def AV.lowsL (n : Nat) : List AV → Bool
  | [] => true
  | a :: r => AV.lowL n a && AV.lowsL n r
end
def frLowL (n : Nat) : FR → Bool
  | [] => true
  | (_, a) :: r => a.lowL n && frLowL n r
def obsLowL (n : Nat) : List Ob → Bool
  | [] => true
  | .cells cs :: r => AV.lowsL n cs && obsLowL n r
  | .loop _ _ _ cs _ :: r => AV.lowsL n cs && obsLowL n r
  | .mapA _ cs :: r => AV.lowsL n cs && obsLowL n r
  | .bufA _ cs :: r => AV.lowsL n cs && obsLowL n r
  | _ :: r => obsLowL n r

/-- From its own point of view to everybody's. -/
def Rf.close (n0 : Nat) : Rf → Rf
  | .l k => .b (n0 + k)
  | .b id => .b id
mutual
def AV.close (n0 : Nat) : AV → AV
  | .p v => .p v
  | .ref r o => .ref (r.close n0) o
  | .view r g sz len => .view (r.close n0) g sz len
  | .elt r g sz i o => .elt (r.close n0) g sz i o
  | .tail r g sz o len => .tail (r.close n0) g sz o len
  | .mapr r => .mapr (r.close n0)
  | .clos f as bs => .clos f (AV.closes n0 as) (AV.closes n0 bs)
  | .agg cs => .agg (AV.closes n0 cs)
  | .tup cs => .tup (AV.closes n0 cs)
def AV.closes (n0 : Nat) : List AV → List AV
  | [] => []
  | a :: r => AV.close n0 a :: AV.closes n0 r
end
theorem closes_map (n0 : Nat) : ∀ (l : List AV), AV.closes n0 l = l.map (AV.close n0)
  | [] => by simp [AV.closes]
  | a :: r => by simp [AV.closes, closes_map n0 r]
def Ob.close (n0 : Nat) : Ob → Ob
  | .cells cs => .cells (AV.closes n0 cs)
  | .loop l r ks cs st => .loop l r ks (AV.closes n0 cs) st
  | .mapA ks cs => .mapA ks (AV.closes n0 cs)
  | .bufA g cs => .bufA g (AV.closes n0 cs)
  | o => o

def flat (ba lo : List Ob) : List Ob := ba ++ lo.map (Ob.close ba.length)

/-- Nothing of the call's own in it, and no number beyond the elder ones. -/
def Rf.low (n0 : Nat) : Rf → Prop
  | .l _ => True
  | .b id => id < n0
inductive AV.Low (n0 : Nat) : AV → Prop
  | p (v : PV) : AV.Low n0 (.p v)
  | ref (r : Rf) (o : Nat) : r.low n0 → AV.Low n0 (.ref r o)
  | view (r : Rf) (g sz len : Nat) : r.low n0 → AV.Low n0 (.view r g sz len)
  | elt (r : Rf) (g sz i o : Nat) : r.low n0 → AV.Low n0 (.elt r g sz i o)
  | tail (r : Rf) (g sz o len : Nat) : r.low n0 → AV.Low n0 (.tail r g sz o len)
  | mapr (r : Rf) : r.low n0 → AV.Low n0 (.mapr r)
  | clos (f : Fn) (as bs : List AV) : (∀ a, a ∈ as → AV.Low n0 a) → (∀ a, a ∈ bs → AV.Low n0 a) → AV.Low n0 (.clos f as bs)
  | agg (cs : List AV) : (∀ a, a ∈ cs → AV.Low n0 a) → AV.Low n0 (.agg cs)
  | tup (cs : List AV) : (∀ a, a ∈ cs → AV.Low n0 a) → AV.Low n0 (.tup cs)
def Ob.Low (n0 : Nat) : Ob → Prop
  | .cells cs => ∀ a, a ∈ cs → AV.Low n0 a
  | .loop _ _ _ cs _ => ∀ a, a ∈ cs → AV.Low n0 a
  | .mapA _ cs => ∀ a, a ∈ cs → AV.Low n0 a
  | .bufA _ cs => ∀ a, a ∈ cs → AV.Low n0 a
  | _ => True

/-- Nothing in it but elder objects. -/
def Ob.LowB (n0 : Nat) : Ob → Prop
  | .cells cs => ∀ a, a ∈ cs → AV.Low n0 a ∧ a.lowL 0 = true
  | .loop _ _ _ cs _ => ∀ a, a ∈ cs → AV.Low n0 a ∧ a.lowL 0 = true
  | .mapA _ cs => ∀ a, a ∈ cs → AV.Low n0 a ∧ a.lowL 0 = true
  | .bufA _ cs => ∀ a, a ∈ cs → AV.Low n0 a ∧ a.lowL 0 = true
  | _ => True

/-- What is to be shown of a call. -/
structure CallVC (P : Program) (f : Nat) (args : List AV) (ba lo : List Ob) (K : AV → List Ob → List Ob → Prop) : Prop where
  out : ∀ (μ : List MI) (w : World) (xs : Array Value), Inv μ w ba lo → VAs ⟨blocks μ, ba.length, μ⟩ w xs args →
    Calls P f xs w fun e w' => ∃ v r μ' ba' lo', e = .returned v ∧ VA ⟨blocks μ', ba.length, μ'⟩ w' v r ∧ Inv μ' w' ba' lo' ∧ Le μ w μ' w' ∧ ba'.length = ba.length ∧ K r ba' lo'

/-- The same, told from everybody's side. -/
structure CallX (P : Program) (f : Nat) (args : List AV) (ba lo : List Ob) (K : AV → List Ob → List Ob → Prop) : Prop where
  out : callA P f (AV.closes ba.length args) (flat ba lo) fun r H' => ∃ (r' : AV) (base' loc' : List Ob), r = r'.close ba.length ∧ r'.Low ba.length ∧
    H' = base' ++ loc'.map (Ob.close ba.length) ∧ base'.length = ba.length ∧ (∀ o, o ∈ base' → o ∈ ba ∨ o.LowB ba.length) ∧ (∀ o, o ∈ loc' → o ∈ lo ∨ o.Low ba.length) ∧ K r' base' loc'

/-- The same where the order is open: the call leaves all objects alone, and its answer is told. -/
structure CallD (P : Program) (f : Nat) (args : List AV) (ba lo : List Ob) (K : AV → List Ob → List Ob → Prop) : Prop where
  out : ∃ e : PV, (∀ X : List Ob, callA P f (AV.closes ba.length args) (flat ba lo ++ X) (fun r H' => r = .p e ∧ H' = flat ba lo ++ X)) ∧ K (.p e) ba lo

/-- The same where the call turns objects: all that it leaves behind is told. -/
structure CallE (P : Program) (f : Nat) (args : List AV) (ba lo : List Ob) (K : AV → List Ob → List Ob → Prop) : Prop where
  out : ∃ (r : AV) (ba' lo' : List Ob), CallVC P f args ba lo (fun r' b l => r' = r ∧ b = ba' ∧ l = lo') ∧ K r ba' lo'

/-- The same of yield: what a round of the loop is to do. -/
structure YieldVC (P : Program) (l : Nat) (args : List AV) (ba lo : List Ob) (K : AV → List Ob → List Ob → Prop) : Prop where
  out : ∀ (n : Nat) (μ : List MI) (w : World) (xs : Array Value), Inv μ w ba lo → VAs ⟨blocks μ, ba.length, μ⟩ w xs args →
    ∃ fn tmps assign body, (Instr.yield l xs).run P w = .ok (.round l fn tmps assign body) w ∧ RoundIn Fence.wide n P l fn tmps assign body w fun e w' => ∃ v r μ' ba' lo', e = .returned v ∧ VA ⟨blocks μ', ba.length, μ'⟩ w' v r ∧ Inv μ' w' ba' lo' ∧ Le μ w μ' w' ∧ ba'.length = ba.length ∧ K r ba' lo'

/-- A function of the machine's own. -/
structure XOk (P : Program) (f : Nat) (ps : List PV) (e : PV) : Prop where
  out : ∀ (M : Nat → Prop) (w : World) (xs : Array Value), xs.size = ps.length → (∀ (j : Nat) (x : Value) (p : PV), xs[j]? = some x → ps[j]? = some p → VP M w x p) → ∃ c, (callFunc f xs).run P w = .ok (.value c) w ∧ VP M w c e

def callK (P : Program) (d : Bool) (f : Nat) (args : List AV) (ba lo : List Ob) (K : AV → List Ob → List Ob → Prop) : Prop :=
  match d with
  | true => CallD P f args ba lo K
  | false => CallVC P f args ba lo K

/-- Two ways on. -/
structure splitB (b : Bool) (K : Bool → Prop) : Prop where
  out : K b

def kindK (j k : IntKind) (K : Prop) : Prop :=
  match j, k with
  | .i8, .i8 | .i16, .i16 | .i32, .i32 | .i64, .i64 | .u8, .u8 | .u16, .u16 | .u32, .u32 | .u64, .u64 => K
  | _, _ => False

def binI (op : BinOp) (k : IntKind) (a b : Int) (K : AV → Prop) : Prop :=
  match op with
  | .add => K (.p (.int k (k.wrap (a + b))))
  | .sub => K (.p (.int k (k.wrap (a - b))))
  | .mul => K (.p (.int k (k.wrap (a * b))))
  | .quo => b ≠ 0 ∧ K (.p (.int k (k.wrap (a.tdiv b))))
  | .rem => b ≠ 0 ∧ K (.p (.int k (a.tmod b)))
  | .and => K (.p (.int k (k.wrap (BitVec.ofInt k.bits a &&& BitVec.ofInt k.bits b).toNat)))
  | .or => K (.p (.int k (k.wrap (BitVec.ofInt k.bits a ||| BitVec.ofInt k.bits b).toNat)))
  | .xor => K (.p (.int k (k.wrap (BitVec.ofInt k.bits a ^^^ BitVec.ofInt k.bits b).toNat)))
  | .andNot => K (.p (.int k (k.wrap (BitVec.ofInt k.bits a &&& ~~~ BitVec.ofInt k.bits b).toNat)))
  | .eql => K (.p (.bool (a == b)))
  | .neq => K (.p (.bool (a != b)))
  | .lss => K (.p (.bool (decide (a < b))))
  | .leq => K (.p (.bool (decide (a ≤ b))))
  | .gtr => K (.p (.bool (decide (a > b))))
  | .geq => K (.p (.bool (decide (a ≥ b))))
  | .shl => 0 ≤ b ∧ K (.p (.int k (k.wrap (a * 2 ^ (min b.toNat k.bits)))))
  | .shr => 0 ≤ b ∧ K (.p (.int k (a.fdiv (2 ^ (min b.toNat k.bits)))))

def strLt (a b : ByteArray) : Bool := Op.bytesLess a.toList b.toList

def binS (op : BinOp) (a b : ByteArray) (K : AV → Prop) : Prop :=
  match op with
  | .add => ((a.size + b.size : Nat) : Int) ≤ 9223372036854775807 ∧ K (.p (.str (a ++ b)))
  | .eql => K (.p (.bool (a.toList == b.toList)))
  | .neq => K (.p (.bool (!(a.toList == b.toList))))
  | .lss => K (.p (.bool (strLt a b)))
  | .leq => K (.p (.bool (strLt a b || a.toList == b.toList)))
  | .gtr => K (.p (.bool (!(strLt a b || a.toList == b.toList))))
  | .geq => K (.p (.bool (!(strLt a b))))
  | _ => False

def isShift : BinOp → Bool
  | .shl | .shr => true
  | _ => false

def binK (op : BinOp) (x y : AV) (K : AV → Prop) : Prop :=
  match x, y with
  | .p (.int k a), .p (.int j b) => bif isShift op then binI op k a b K else kindK k j (binI op k a b K)
  | .p (.str a), .p (.str b) => binS op a b K
  | _, _ => False

/-- Two rows of cells of whole numbers, texts and bools. -/
def eqCells : List SK → List PV → List PV → Option Bool
  | [], [], [] => some true
  | .int i :: ks, .int j a :: r, .int k b :: r' => if i = j ∧ i = k then (eqCells ks r r').map (a == b && ·) else none
  | .str :: ks, .str a :: r, .str b :: r' => (eqCells ks r r').map (a.toList == b.toList && ·)
  | .bool :: ks, .bool a :: r, .bool b :: r' => (eqCells ks r r').map (a == b && ·)
  | _, _, _ => none

def byteInts (s : ByteArray) : List PV := s.data.toList.map fun b => .int .u8 b.toNat
def intBytes : List PV → Option (List UInt8)
  | [] => some []
  | .int .u8 n :: r => (intBytes r).map (UInt8.ofNat n.toNat :: ·)
  | _ => none

/-- As much as may be appended to. -/
def room (n bytes : Nat) : Prop := n * bytes ≤ 70368744177664

/-- What a list holds. -/
def contK (sz : Nat) (y : AV) (ba lo : List Ob) (k : List PV → Prop) : Prop :=
  match y with
  | .p .nils => k []
  | .p .zer => k []
  | .p .emp => k []
  | .p (.list sz' ys) => sz = sz' ∧ k ys
  | .p (.lent sz' ys _) => sz = sz' ∧ k ys
  | .view (.l m) g sz' len => atK m lo fun o => match o with
    | .buf g' sz'' es => (sz = sz' ∧ sz = sz'' ∧ g = g' ∧ len ≤ es.length) ∧ ∃ ys, es.take len = ys ∧ k ys
    | _ => False
  | .view (.b id) g sz' len => atK id ba fun o => match o with
    | .buf g' sz'' es => (sz = sz' ∧ sz = sz'' ∧ g = g' ∧ len ≤ es.length) ∧ ∃ ys, es.take len = ys ∧ k ys
    | _ => False
  | _ => False

def appK (sz bytes : Nat) (x : AV) (ys : List PV) (ba lo : List Ob) (K : AV → List Ob → List Ob → Prop) : Prop :=
  match x with
  | .p .nils => room ys.length bytes ∧ pushK lo (.buf 0 sz ys) fun m loc' => K (.view (.l m) 0 sz ys.length) ba loc'
  | .p .emp => match ys with
    | [] => K (.p .emp) ba lo
    | y :: r => room (r.length + 1) bytes ∧ pushK lo (.buf 0 sz (y :: r)) fun m loc' => K (.view (.l m) 0 sz (r.length + 1)) ba loc'
  | .view (.l m) g sz' len => atK m lo fun o => match o with
    | .buf g' sz'' es => (sz = sz' ∧ sz = sz'' ∧ g = g' ∧ len ≤ es.length) ∧ room (len + ys.length) bytes ∧ ∃ zs, es.take len ++ ys = zs ∧ setAtK m lo (.buf (g + 1) sz zs) fun loc' => K (.view (.l m) (g + 1) sz (len + ys.length)) ba loc'
    | _ => False
  | .view (.b id) g sz' len => atK id ba fun o => match o with
    | .buf g' sz'' es => (sz = sz' ∧ sz = sz'' ∧ g = g' ∧ len ≤ es.length) ∧ room (len + ys.length) bytes ∧ ∃ zs, es.take len ++ ys = zs ∧ setAtK id ba (.buf (g + 1) sz zs) fun ba' => K (.view (.b id) (g + 1) sz (len + ys.length)) ba' lo
    | _ => False
  | _ => False

def fillK : List (Nat × Nat × AV) → List AV → (List AV → Prop) → Prop
  | [], cs, k => k cs
  | (off, n, v) :: r, cs, k => cellsK v fun news => bif Nat.beq news.length n then spliceK off news cs fun cs' => fillK r cs' k else False

def partsK : List (Nat × Nat × Rv) → FR → (List (Nat × Nat × AV) → Prop) → Prop
  | [], _, k => k []
  | (o, n, x) :: r, fr, k => evK x fr fun a => partsK r fr fun as => k ((o, n, a) :: as)

def repK {α : Type} : Nat → α → (List α → Prop) → Prop
  | 0, _, k => k []
  | n + 1, x, k => repK n x fun r => k (x :: r)

def litK (sz : Nat) : List (Nat × Rv) → FR → List PV → (List PV → Prop) → Prop
  | [], _, es, k => k es
  | (i, x) :: r, fr, es, k => evK x fr fun a => match a with
    | .p e => cellsPK e fun cs => bif Nat.beq cs.length sz then setAtK i es e fun es' => litK sz r fr es' k else False
    | _ => False

/-- Can a function be entered? -/
def enters (P : Program) (f : Nat) : Bool :=
  match P.funcs[f]? with
  | some fn => fn.body.isSome && !(fn.name == "runtime.NumGoroutine")
  | none => false

/-- Is a list of the call's own what it was when it was looked at? -/
def aliveE (r : Rf) (g : Nat) (ba lo : List Ob) : Prop :=
  match r with
  | .l m => atK m lo fun o => match o with
    | .buf g' _ es => g = g' ∧ es ≠ []
    | _ => False
  | .b id => atK id ba fun o => match o with
    | .buf g' _ es => g = g' ∧ es ≠ []
    | _ => False
def aliveV (r : Rf) (g : Nat) (ba lo : List Ob) : Prop :=
  match r with
  | .l m => atK m lo fun o => match o with
    | .buf g' _ _ => g = g'
    | .bufA g' _ => g = g'
    | _ => False
  | .b id => atK id ba fun o => match o with
    | .buf g' _ _ => g = g'
    | .bufA g' _ => g = g'
    | _ => False

/-- Is this a key of such a map (of whole numbers, or of texts)? -/
def keyOk (kk : Option IntKind) (k : PV) : Bool :=
  match kk, k with
  | none, .str _ => true
  | some j, .int i _ => i == j
  | _, _ => false
def sameKey (a b : PV) : Option Bool :=
  match a, b with
  | .str a, .str b => some (decide (a = b))
  | .int _ a, .int _ b => some (decide (a = b))
  | _, _ => none
/-- What stands at a key. -/
def mfind (kk : Option IntKind) (k : PV) : List (PV × PV) → Option (Option PV)
  | [] => some none
  | (c, v) :: r => match keyOk kk c, sameKey k c with
    | true, some true => some (some v)
    | true, some false => mfind kk k r
    | _, _ => none
def mput (kk : Option IntKind) (k v : PV) : List (PV × PV) → Option (List (PV × PV))
  | [] => some [(k, v)]
  | (c, u) :: r => match keyOk kk c, sameKey k c with
    | true, some true => some ((k, v) :: r)
    | true, some false => (mput kk k v r).map ((c, u) :: ·)
    | _, _ => none
def afind (kk : Option IntKind) (k : PV) : List PV → List AV → Option (Option AV)
  | [], _ => some none
  | c :: r, v :: vs => match keyOk kk c, sameKey k c with
    | true, some true => some (some v)
    | true, some false => afind kk k r vs
    | _, _ => none
  | _ :: _, [] => none
def aput (kk : Option IntKind) (k : PV) (a : AV) : List PV → List AV → Option (List PV × List AV)
  | [], _ => some ([k], [a])
  | c :: r, v :: vs => match keyOk kk c, sameKey k c with
    | true, some true => some (k :: r, a :: vs)
    | true, some false => (aput kk k a r vs).map fun q => (c :: q.1, v :: q.2)
    | _, _ => none
  | _ :: _, [] => none
def adel (kk : Option IntKind) (k : PV) : List PV → List AV → Option (List PV × List AV)
  | [], vs => some ([], vs)
  | c :: r, v :: vs => match keyOk kk c, sameKey k c with
    | true, some true => some (r, vs)
    | true, some false => (adel kk k r vs).map fun q => (c :: q.1, v :: q.2)
    | _, _ => none
  | _ :: _, [] => none
def lookA (zero : PV) (ok : Bool) (q : Option AV) : AV :=
  match ok, q with
  | true, some (.p v) => .p (.tup [v, .bool true])
  | true, some a => .tup [a, .p (.bool true)]
  | true, none => .p (.tup [zero, .bool false])
  | false, some a => a
  | false, none => .p zero
/-- An entry that is made, if it is not there: what stands there, its number, the map. -/
def mentF (kk : Option IntKind) (k zero : PV) : List (PV × PV) → Option (PV × Nat × List (PV × PV))
  | [] => some (zero, 0, [(k, zero)])
  | (c, u) :: r => match keyOk kk c, sameKey k c with
    | true, some true => some (u, 0, (k, u) :: r)
    | true, some false => (mentF kk k zero r).map fun q => (q.1, q.2.1 + 1, (c, u) :: q.2.2)
    | _, _ => none
def lookV (zero : PV) (ok : Bool) (q : Option PV) : PV :=
  match ok, q with
  | true, some v => .tup [v, .bool true]
  | true, none => .tup [zero, .bool false]
  | false, some v => v
  | false, none => zero

/-- One operation. -/
def opV (P : Program) (d : Bool) (i : IOp) (fr : FR) (ba lo : List Ob) (K : AV → List Ob → List Ob → Prop) : Prop :=
  match i with
  | .mv x => evK x fr fun a => K a ba lo
  | .nilb sz => pushK lo (.buf 0 sz []) fun m loc' => K (.view (.l m) 0 sz 0) ba loc'
  | .mvS x => evK x fr fun a => match a with
    | .p (.str t) => K (.p (.str t)) ba lo
    | _ => False
  | .pick c a b => evK c fr fun c => match c with
    | .p (.bool true) => evK a fr fun a => K a ba lo
    | .p (.bool false) => evK b fr fun b => K b ba lo
    | _ => False
  | .bin op x y => evK x fr fun x => evK y fr fun y => binK op x y fun a => K a ba lo
  | .eqb neg x y => evK x fr fun x => evK y fr fun y => match x, y with
    | .p (.bool a), .p (.bool b) => K (.p (.bool (match neg with | true => !(a == b) | false => a == b))) ba lo
    | _, _ => False
  | .eqs neg ks x y => evK x fr fun x => evK y fr fun y => match x, y with
    | .p (.agg a), .p (.agg b) => ∃ q, eqCells ks a b = some q ∧ K (.p (.bool (match neg with | true => !q | false => q))) ba lo
    | _, _ => False
  | .isNil neg x => evK x fr fun x => match x with
    | .p .nilf => K (.p (.bool (match neg with | true => false | false => true))) ba lo
    | .p (.fn _) | .clos _ _ _ => K (.p (.bool (match neg with | true => true | false => false))) ba lo
    | _ => False
  | .not x => evK x fr fun x => match x with
    | .p (.bool b) => K (.p (.bool (!b))) ba lo
    | _ => False
  | .mkI t x => evK x fr fun x => match x with
    | .p v => K (.p (.iface t v)) ba lo
    | _ => False
  | .isNilI neg x => evK x fr fun x => match x with
    | .p .nili => K (.p (.bool (match neg with | true => false | false => true))) ba lo
    | .p (.iface _ _) => K (.p (.bool (match neg with | true => true | false => false))) ba lo
    | _ => False
  | .tas t x => evK x fr fun x => match x with
    | .p (.iface u v) => t = u ∧ K (.p (.tup [v, .bool true])) ba lo
    | _ => False
  | .neg x => evK x fr fun x => match x with
    | .p (.int k a) => K (.p (.int k (k.wrap (0 - a)))) ba lo
    | _ => False
  | .conv k x => evK x fr fun x => match x with
    | .p (.int _ a) => K (.p (.int k (k.wrap a))) ba lo
    | _ => False
  | .toBytes x => evK x fr fun x => match x with
    | .p (.str t) => K (.p (.list 1 (byteInts t))) ba lo
    | _ => False
  | .ofBytes x => evK x fr fun x => contK 1 x ba lo fun ys => ∃ l, intBytes ys = some l ∧ K (.p (.str ⟨l.toArray⟩)) ba lo
  | .alloc zero => upPK zero fun cs => pushK lo (.cells cs) fun m loc' => K (.ref (.l m) 0) ba loc'
  | .box x => evK x fr fun a => cellsK a fun cs => pushK lo (.cells cs) fun m loc' => K (.ref (.l m) 0) ba loc'
  | .build zero parts => partsK parts fr fun ps => upPK zero fun cs => fillK ps cs fun cs' => mkAggK cs' fun a => K a ba lo
  | .lit own sz zero len parts => repK len zero fun es => litK sz parts fr es fun es' => match own with
    | true => pushK lo (.buf 0 sz es') fun m loc' => K (.view (.l m) 0 sz es'.length) ba loc'
    | false => K (.p (.list sz es')) ba lo
  | .load n a => evK a fr fun a => match a with
    | .p (.ptr cs) => readPK n cs fun v => K v ba lo
    | .ref (.l m) off => atK m lo fun o => match o with
      | .cells cs => dropK off cs fun cs => readAK n cs fun v => K v ba lo
      | _ => False
    | .ref (.b id) off => atK id ba fun o => match o with
      | .cells cs => dropK off cs fun cs => readAK n cs fun v => K v ba lo
      | _ => False
    | .elt (.l m) g sz idx off => atK m lo fun o => match o with
      | .buf g' sz' es => (g = g' ∧ sz = sz') ∧ ∃ e, es[idx]? = some e ∧ cellsPK e fun cs => dropK off cs fun cs => readPK n cs fun v => K v ba lo
      | .bufA g' es => (g = g' ∧ sz = 1 ∧ off = 0) ∧ ∃ e, es[idx]? = some e ∧ readAK n [e] fun v => K v ba lo
      | _ => False
    | .elt (.b id) g sz idx off => atK id ba fun o => match o with
      | .buf g' sz' es => (g = g' ∧ sz = sz') ∧ ∃ e, es[idx]? = some e ∧ cellsPK e fun cs => dropK off cs fun cs => readPK n cs fun v => K v ba lo
      | .bufA g' es => (g = g' ∧ sz = 1 ∧ off = 0) ∧ ∃ e, es[idx]? = some e ∧ readAK n [e] fun v => K v ba lo
      | _ => False
    | _ => False
  | .store n a x => evK a fr fun a => evK x fr fun x => cellsK x fun news => bif Nat.beq news.length n then match a with
    | .ref (.l m) off => atK m lo fun o => match o with
      | .cells cs => spliceK off news cs fun cs' => setAtK m lo (.cells cs') fun loc' => K (.p .undef) ba loc'
      | _ => False
    | .ref (.b id) off => atK id ba fun o => match o with
      | .cells cs => match noLs news with
        | true => spliceK off news cs fun cs' => setAtK id ba (.cells cs') fun ba' => K (.p .undef) ba' lo
        | false => False
      | _ => False
    | .elt (.l m) g sz idx off => atK m lo fun o => match o with
      | .buf g' sz' es => (g = g' ∧ sz = sz') ∧ ∃ e, es[idx]? = some e ∧ allPK news (fun ps => match e with
          | .agg cs => spliceK off ps cs fun cs' => setAtK m lo (.buf g' sz' (es.set idx (.agg cs'))) fun loc' => K (.p .undef) ba loc'
          | .undef | .tup _ => False
          | _ => match ps with
            | [c] => off = 0 ∧ sz = 1 ∧ setAtK m lo (.buf g' sz' (es.set idx c)) fun loc' => K (.p .undef) ba loc'
            | _ => False) False
      | .bufA g' es => match news with
        | [a] => (g = g' ∧ sz = 1 ∧ off = 0 ∧ idx < es.length) ∧ setAtK m lo (.bufA g' (es.set idx a)) fun loc' => K (.p .undef) ba loc'
        | _ => False
      | _ => False
    | .elt (.b m) g sz idx off => atK m ba fun o => match o with
      | .buf g' sz' es => (g = g' ∧ sz = sz') ∧ ∃ e, es[idx]? = some e ∧ allPK news (fun ps => match e with
          | .agg cs => spliceK off ps cs fun cs' => setAtK m ba (.buf g' sz' (es.set idx (.agg cs'))) fun ba' => K (.p .undef) ba' lo
          | .undef | .tup _ => False
          | _ => match ps with
            | [c] => off = 0 ∧ sz = 1 ∧ setAtK m ba (.buf g' sz' (es.set idx c)) fun ba' => K (.p .undef) ba' lo
            | _ => False) False
      | .bufA g' es => match news with
        | [a] => (g = g' ∧ sz = 1 ∧ off = 0 ∧ idx < es.length) ∧ a.noL = true ∧ setAtK m ba (.bufA g' (es.set idx a)) fun ba' => K (.p .undef) ba' lo
        | _ => False
      | _ => False
    | _ => False
    else False
  | .nilck x => evK x fr fun a => match a with
    | .p (.ptr cs) => K (.p (.ptr cs)) ba lo
    | .ref r o => K (.ref r o) ba lo
    | .p (.fn f) => K (.p (.fn f)) ba lo
    | .clos (.func f) as bs => K (.clos (.func f) as bs) ba lo
    | _ => False
  | .fieldA off x => evK x fr fun a => match a with
    | .p (.ptr cs) => dropK off cs fun cs => K (.p (.ptr cs)) ba lo
    | .ref r o => K (.ref r (o + off)) ba lo
    | .elt r g sz i o => aliveE r g ba lo ∧ K (.elt r g sz i (o + off)) ba lo
    | _ => False
  | .elemA sz x i => evK x fr fun x => evK i fr fun i => match x, i with
    | .p (.list sz' es), .p (.int _ i) => sz = sz' ∧ ∃ e, (0 ≤ i ∧ es[i.toNat]? = some e) ∧ cellsPK e fun cs => K (.p (.ptr cs)) ba lo
    | .p (.lent sz' es _), .p (.int _ i) => sz = sz' ∧ ∃ e, (0 ≤ i ∧ es[i.toNat]? = some e) ∧ cellsPK e fun cs => K (.p (.ptr cs)) ba lo
    | .view r g sz' len, .p (.int _ i) => (sz = sz' ∧ 0 ≤ i ∧ i < len) ∧ aliveV r g ba lo ∧ K (.elt r g sz i.toNat 0) ba lo
    | .tail r g sz' off len, .p (.int _ i) => (sz = sz' ∧ 0 ≤ i ∧ i < len) ∧ aliveV r g ba lo ∧ K (.elt r g sz (off + i.toNat) 0) ba lo
    | _, _ => False
  | .arrA sz len x i => evK x fr fun x => evK i fr fun i => match x, i with
    | .ref r o, .p (.int _ i) => (0 ≤ i ∧ i < len) ∧ K (.ref r (o + i.toNat * sz)) ba lo
    | _, _ => False
  | .fld off n x => evK x fr fun x => match x with
    | .p (.agg cs) => dropK off cs fun cs => readPK n cs fun v => K v ba lo
    | .agg cs => dropK off cs fun cs => readAK n cs fun v => K v ba lo
    | _ => False
  | .idxA sz len n x i => evK x fr fun x => evK i fr fun i => match x, i with
    | .p (.agg cs), .p (.int _ i) => (0 ≤ i ∧ i < len) ∧ match n with
      | some n => (i.toNat * sz + n ≤ cs.length) ∧ K (.p (.agg ((cs.drop (i.toNat * sz)).take n))) ba lo
      | none => ∃ c, cs[i.toNat * sz]? = some c ∧ K (.p c) ba lo
    | _, _ => False
  | .idxS x i => evK x fr fun x => evK i fr fun i => match x, i with
    | .p (.str t), .p (.int _ i) => ∃ c, (0 ≤ i ∧ t.data.toList[i.toNat]? = some c) ∧ K (.p (.int .u8 c.toNat)) ba lo
    | _, _ => False
  | .cutS x l0 h0 => evK x fr fun x => evOK l0 fr fun l0 => evOK h0 fr fun h0 => match x with
    | .p (.str t) => match l0, h0 with
      | none, none => K (.p (.str (t.extract 0 t.size))) ba lo
      | some (.p (.int _ l)), none => (0 ≤ l ∧ l ≤ t.size) ∧ K (.p (.str (t.extract l.toNat t.size))) ba lo
      | none, some (.p (.int _ h)) => (0 ≤ h ∧ h ≤ t.size) ∧ K (.p (.str (t.extract 0 h.toNat))) ba lo
      | some (.p (.int _ l)), some (.p (.int _ h)) => (0 ≤ l ∧ l ≤ h ∧ h ≤ t.size) ∧ K (.p (.str (t.extract l.toNat h.toNat))) ba lo
      | _, _ => False
    | _ => False
  | .cutL sz x l0 h0 mx => evK x fr fun x => evOK l0 fr fun l0 => evOK h0 fr fun h0 => match mx with
    | some _ => False
    | none => match x with
      | .p (.list sz' es) => sz = sz' ∧ (match l0, h0 with
        | none, none => K (.p (.list sz es)) ba lo
        | some (.p (.int _ l)), none => (0 ≤ l ∧ l ≤ es.length) ∧ K (.p (.list sz (es.drop l.toNat))) ba lo
        | none, some (.p (.int _ h)) => (0 ≤ h ∧ h ≤ es.length) ∧ K (.p (.list sz (es.take h.toNat))) ba lo
        | some (.p (.int _ l)), some (.p (.int _ h)) => (0 ≤ l ∧ l ≤ h ∧ h ≤ es.length) ∧ K (.p (.list sz ((es.take h.toNat).drop l.toNat))) ba lo
        | _, _ => False)
      | .p .nils => (match l0, h0 with
        | none, none => K (.p .nils) ba lo
        | some (.p (.int _ l)), none => l = 0 ∧ K (.p .nils) ba lo
        | none, some (.p (.int _ h)) => h = 0 ∧ K (.p .nils) ba lo
        | some (.p (.int _ l)), some (.p (.int _ h)) => (l = 0 ∧ h = 0) ∧ K (.p .nils) ba lo
        | _, _ => False)
      | .p .emp => (match l0, h0 with
        | none, some (.p (.int _ h)) => h = 0 ∧ K (.p .emp) ba lo
        | _, _ => False)
      | .p (.lent sz' es sp) => sz = sz' ∧ (match l0, h0 with
        | none, some (.p (.int _ h)) => (0 ≤ h ∧ h ≤ (es ++ sp).length) ∧ K (.p (.lent sz ((es ++ sp).take h.toNat) ((es ++ sp).drop h.toNat))) ba lo
        | _, _ => False)
      | .view r g sz' len => aliveV r g ba lo ∧ (match l0, h0 with
        | none, some (.p (.int _ h)) => (0 ≤ h ∧ h ≤ len) ∧ K (.view r g sz' h.toNat) ba lo
        | none, none => K (.view r g sz' len) ba lo
        | some (.p (.int _ l)), none => sz = sz' ∧ (0 ≤ l ∧ l ≤ len) ∧ K (.tail r g sz' l.toNat (len - l.toNat)) ba lo
        | _, _ => False)
      | .tail r g sz' off len => aliveV r g ba lo ∧ (match l0, h0 with
        | none, some (.p (.int _ h)) => (0 ≤ h ∧ h ≤ len) ∧ K (.tail r g sz' off h.toNat) ba lo
        | none, none => K (.tail r g sz' off len) ba lo
        | some (.p (.int _ l)), none => sz = sz' ∧ (0 ≤ l ∧ l ≤ len) ∧ K (.tail r g sz' (off + l.toNat) (len - l.toNat)) ba lo
        | _, _ => False)
      | _ => False
  | .lenS x => evK x fr fun x => match x with
    | .p (.str t) => K (.p (.int .i64 t.size)) ba lo
    | _ => False
  | .len x => evK x fr fun x => match x with
    | .p .nils => K (.p (.int .i64 0)) ba lo
    | .p .zer => K (.p (.int .i64 0)) ba lo
    | .p .emp => K (.p (.int .i64 0)) ba lo
    | .tail r g _ _ len => aliveV r g ba lo ∧ K (.p (.int .i64 len)) ba lo
    | .p (.list _ es) => K (.p (.int .i64 es.length)) ba lo
    | .p (.lent _ es _) => K (.p (.int .i64 es.length)) ba lo
    | .view r g _ len => aliveV r g ba lo ∧ K (.p (.int .i64 len)) ba lo
    | _ => False
  | .app sz bytes x y => evK x fr fun x => evK y fr fun y => contK sz y ba lo fun ys => appK sz bytes x ys ba lo K
  | .appS x y => evK x fr fun x => evK y fr fun y => match y with
    | .p (.str t) => appK 1 1 x (byteInts t) ba lo K
    | _ => False
  | .max2 x y => evK x fr fun x => evK y fr fun y => match x, y with
    | .p (.int k a), .p (.int j b) => kindK k j (K (.p (.int k (if b > a then b else a))) ba lo)
    | _, _ => False
  | .min2 x y => evK x fr fun x => evK y fr fun y => match x, y with
    | .p (.int k a), .p (.int j b) => kindK k j (K (.p (.int k (if b < a then b else a))) ba lo)
    | _, _ => False
  | .mkfn f first cap => evsK first fr fun as => evsK cap fr fun bs => match as, bs with
    | [], [] => K (.p (.fn f)) ba lo
    | _, _ => K (.clos f as bs) ba lo
  | .call f args => evsK args fr fun as => callK P d f as ba lo K
  | .callE f args => evsK args fr fun as => match d with
    | true => CallE P f as ba lo K
    | false => CallVC P f as ba lo K
  | .xcall f args => evsK args fr fun as => allPK as (fun ps => ∃ e, XOk P f ps e ∧ K (.p e) ba lo) False
  | .callv x args => evK x fr fun x => evsK args fr fun as => match x with
    | .p (.fn (.yield l)) => match d with
      | false => YieldVC P l as ba lo K
      | true => False
    | .p (.fn (.func f)) => enters P f = true ∧ callK P d f as ba lo K
    | .clos (.func f) first cap => enters P f = true ∧ callK P d f (first ++ as ++ cap) ba lo K
    | _ => False
  | .ext x i => evK x fr fun x => match x with
    | .p (.tup vs) => atK i vs fun v => K (.p v) ba lo
    | .tup vs => atK i vs fun v => K v ba lo
    | _ => False
  | .mk sz bytes zero len cap => evK len fr fun len => evK cap fr fun cap => match len, cap with
    | .p (.int _ l), .p (.int _ c) => (0 ≤ l ∧ l ≤ c ∧ room c.toNat bytes) ∧ ∃ zs, List.replicate l.toNat zero = zs ∧ pushK lo (.buf 0 sz zs) fun m loc' => K (.view (.l m) 0 sz l.toNat) ba loc'
    | _, _ => False
  | .mkmap => pushK lo (.map []) fun m loc' => K (.mapr (.l m)) ba loc'
  | .mkmapH x => evK x fr fun x => match x with
    | .p (.int _ _) => pushK lo (.map []) fun m loc' => K (.mapr (.l m)) ba loc'
    | _ => False
  | .litZ => K (.p .emp) ba lo
  | .boxF x => evK x fr fun a => cellsK a fun cs => allPK cs (fun ps => K (.p (.ptr ps)) ba lo) False
  | .isNilS neg x => evK x fr fun x => match x with
    | .p .nils => K (.p (.bool (match neg with | true => false | false => true))) ba lo
    | .p .zer | .p (.list _ (_ :: _)) | .p (.lent _ _ _) => K (.p (.bool (match neg with | true => true | false => false))) ba lo
    | .view r g _ (_ + 1) => aliveV r g ba lo ∧ K (.p (.bool (match neg with | true => true | false => false))) ba lo
    | _ => False
  | .mkmapA => pushK lo (.mapA [] []) fun m loc' => K (.mapr (.l m)) ba loc'
  | .look kk zero ok x i => evK x fr fun x => evK i fr fun i => match i with
    | .p key => keyOk kk key = true ∧ match x with
      | .p .nilm => K (.p (lookV zero ok none)) ba lo
      | .mapr (.l m) => atK m lo fun o => match o with
        | .map es => ∃ q, mfind kk key es = some q ∧ K (.p (lookV zero ok q)) ba lo
        | .mapA ks vs => ∃ q, afind kk key ks vs = some q ∧ K (lookA zero ok q) ba lo
        | _ => False
      | .mapr (.b m) => atK m ba fun o => match o with
        | .map es => ∃ q, mfind kk key es = some q ∧ K (.p (lookV zero ok q)) ba lo
        | .mapA ks vs => ∃ q, afind kk key ks vs = some q ∧ K (lookA zero ok q) ba lo
        | _ => False
      | _ => False
    | _ => False
  | .mset kk x i v => evK x fr fun x => evK i fr fun i => evK v fr fun v => match i with
    | .p key => keyOk kk key = true ∧ match x with
      | .mapr (.l m) => atK m lo fun o => match o with
        | .map es => match v with
          | .p val => ∃ q, mput kk key val es = some q ∧ setAtK m lo (.map q) fun loc' => K (.p .undef) ba loc'
          | _ => False
        | .mapA ks vs => ∃ q, aput kk key v ks vs = some q ∧ setAtK m lo (.mapA q.1 q.2) fun loc' => K (.p .undef) ba loc'
        | _ => False
      | .mapr (.b m) => atK m ba fun o => match o with
        | .map es => match v with
          | .p val => ∃ q, mput kk key val es = some q ∧ setAtK m ba (.map q) fun ba' => K (.p .undef) ba' lo
          | _ => False
        | .mapA ks vs => v.noL = true ∧ ∃ q, aput kk key v ks vs = some q ∧ setAtK m ba (.mapA q.1 q.2) fun ba' => K (.p .undef) ba' lo
        | _ => False
      | _ => False
    | _ => False
  | .mdel kk x i => evK x fr fun x => evK i fr fun i => match i with
    | .p key => keyOk kk key = true ∧ match x with
      | .mapr (.l m) => atK m lo fun o => match o with
        | .mapA ks vs => ∃ q, adel kk key ks vs = some q ∧ setAtK m lo (.mapA q.1 q.2) fun loc' => K (.p .undef) ba loc'
        | _ => False
      | .mapr (.b m) => atK m ba fun o => match o with
        | .mapA ks vs => ∃ q, adel kk key ks vs = some q ∧ setAtK m ba (.mapA q.1 q.2) fun ba' => K (.p .undef) ba' lo
        | _ => False
      | _ => False
    | _ => False
  | .ment kk zero x i => evK x fr fun x => evK i fr fun i => match i with
    | .p key => keyOk kk key = true ∧ match x with
      | .mapr (.l m) => atK m lo fun o => match o with
        | .map es => ∃ q, mentF kk key zero es = some q ∧ setAtK m lo (.map q.2.2) fun loc' => K (.p (.tup [q.1, .int .i64 q.2.1])) ba loc'
        | _ => False
      | .mapr (.b m) => atK m ba fun o => match o with
        | .map es => ∃ q, mentF kk key zero es = some q ∧ setAtK m ba (.map q.2.2) fun ba' => K (.p (.tup [q.1, .int .i64 q.2.1])) ba' lo
        | _ => False
      | _ => False
    | _ => False
  | .msto x st v => evK x fr fun x => evK st fr fun st => evK v fr fun v => match st, v with
    | .p (.int _ j), .p val => match x with
      | .mapr (.l m) => atK m lo fun o => match o with
        | .map es => ∃ e, (0 ≤ j ∧ es[j.toNat]? = some e) ∧ setAtK m lo (.map (es.set j.toNat (e.1, val))) fun loc' => K (.p .undef) ba loc'
        | _ => False
      | .mapr (.b m) => atK m ba fun o => match o with
        | .map es => ∃ e, (0 ≤ j ∧ es[j.toNat]? = some e) ∧ setAtK m ba (.map (es.set j.toNat (e.1, val))) fun ba' => K (.p .undef) ba' lo
        | _ => False
      | _ => False
    | _, _ => False
  | .mkA bytes zero len cap => evK len fr fun len => evK cap fr fun cap => match len, cap with
    | .p (.int _ l), .p (.int _ c) => (0 ≤ l ∧ l ≤ c ∧ room c.toNat bytes) ∧ ∃ zs, List.replicate l.toNat (AV.p zero) = zs ∧ pushK lo (.bufA 0 zs) fun m loc' => K (.view (.l m) 0 1 l.toNat) ba loc'
    | _, _ => False
  | .clr sz zero x => evK x fr fun x => match x with
    | .tail (.l m) g sz' off len => atK m lo fun o => match o with
      | .buf g' sz'' es => (sz = sz' ∧ sz = sz'' ∧ g = g' ∧ off + len ≤ es.length) ∧ setAtK m lo (.buf g sz (es.take off ++ List.replicate len zero ++ es.drop (off + len))) fun loc' => K (.p .undef) ba loc'
      | _ => False
    | .tail (.b m) g sz' off len => atK m ba fun o => match o with
      | .buf g' sz'' es => (sz = sz' ∧ sz = sz'' ∧ g = g' ∧ off + len ≤ es.length) ∧ setAtK m ba (.buf g sz (es.take off ++ List.replicate len zero ++ es.drop (off + len))) fun ba' => K (.p .undef) ba' lo
      | _ => False
    | _ => False
  | .appF sz bytes x y => evK x fr fun x => evK y fr fun y => contK sz y ba lo fun ys => match x with
    | .view (.l m) g sz' len => atK m lo fun o => match o with
      | .buf g' sz'' es => (sz = sz' ∧ sz = sz'' ∧ g = g' ∧ len ≤ es.length) ∧ room (len + ys.length) bytes ∧ ∃ zs, es.take len ++ ys = zs ∧ setAtK m lo .gone fun loc' => K (.p (.list sz zs)) ba loc'
      | _ => False
    | _ => False
  | _ => False

def putK (fr : FR) (dst : Option Nat) (v : AV) (K : FR → Prop) : Prop :=
  match dst with
  | none => K fr
  | some t => setK fr t v K

/-! The recursors stand here by their own names, so that a goal that has been reckoned out is, for the kernel too, what it was. -/

abbrev OV := FR → List Ob → List Ob → (FR → List Ob → List Ob → Prop) → Prop
abbrev WV := FR → List Ob → List Ob → (Exit → FR → List Ob → List Ob → Prop) → Prop

def opsStep (P : Program) (d : Bool) (o : IO_) (ih : OV) : OV := fun fr ba lo K => match o.guard with
    | none => opV P d o.op fr ba lo fun v ba lo => match o.split with
      | false => putK fr o.dst v fun fr => ih fr ba lo K
      | true => match v with
        | .p (.bool b) => splitB b fun b => putK fr o.dst (.p (.bool b)) fun fr => ih fr ba lo K
        | _ => False
    | some (t, want) => getK fr t fun g => match g, want with
      | .p (.bool true), true | .p (.bool false), false => opV P d o.op fr ba lo fun v ba lo => match o.split with
        | false => putK fr o.dst v fun fr => ih fr ba lo K
        | true => match v with
          | .p (.bool b) => splitB b fun b => putK fr o.dst (.p (.bool b)) fun fr => ih fr ba lo K
          | _ => False
      | .p (.bool true), false | .p (.bool false), true | .p (.tup []), true | .p (.tup []), false => putK fr o.dst (.p (.tup [])) fun fr => ih fr ba lo K
      | _, _ => False

def opsV (P : Program) (d : Bool) (l : List IO_) : OV := List.rec (motive := fun _ => OV) (fun fr ba lo K => K fr ba lo) (fun o _ ih => opsStep P d o ih) l

/-! ### calls that may panic -/
abbrev XV := List PanicEntry → List Ob → List Ob → Prop
/-- What is to be shown of a call that may panic. -/
structure CallPV (P : Program) (f : Nat) (args : List AV) (ba lo : List Ob) (K : AV → List Ob → List Ob → Prop) (X : XV) : Prop where
  out : ∀ (μ : List MI) (w : World) (xs : Array Value), Inv μ w ba lo → VAs ⟨blocks μ, ba.length, μ⟩ w xs args →
    Calls P f xs w fun e w' => (∃ v r μ' ba' lo', e = .returned v ∧ VA ⟨blocks μ', ba.length, μ'⟩ w' v r ∧ Inv μ' w' ba' lo' ∧ Le μ w μ' w' ∧ ba'.length = ba.length ∧ K r ba' lo') ∨
      ∃ ch μ' ba' lo', e = .panicked ch ∧ Inv μ' w' ba' lo' ∧ Le μ w μ' w' ∧ ba'.length = ba.length ∧ X ch ba' lo'
/-- A value that the memory has no part in, as the model has it. -/
def rawV : PV → Option Value
  | .int k n => some (.int k n)
  | .agg [.int k n, .int j m] => some (.agg #[.int k n, .int j m])
  | _ => none
def opVP (P : Program) (i : IOp) (fr : FR) (ba lo : List Ob) (K : AV → List Ob → List Ob → Prop) (X : XV) : Prop :=
  match i with
  | .callP f args => evsK args fr fun as => CallPV P f as ba lo K X
  | .callvP x args => evK x fr fun x => evsK args fr fun as => match x with
    | .p (.fn (.func f)) => enters P f = true ∧ CallPV P f as ba lo K X
    | .clos (.func f) first cap => enters P f = true ∧ CallPV P f (first ++ as ++ cap) ba lo K X
    | _ => False
  | .throw x => evK x fr fun a => match a with
    | .p (.iface t v) => ∃ u, rawV v = some u ∧ X [{ v := .iface t u, recovered := false }] ba lo
    | _ => False
  | i => opV P false i fr ba lo K
abbrev OPV := FR → List Ob → List Ob → (FR → List Ob → List Ob → Prop) → XV → Prop
def opsPStep (P : Program) (o : IO_) (ih : OPV) : OPV := fun fr ba lo K X => match o.guard with
    | none => opVP P o.op fr ba lo (fun v ba lo => match o.split with
      | false => putK fr o.dst v fun fr => ih fr ba lo K X
      | true => match v with
        | .p (.bool b) => splitB b fun b => putK fr o.dst (.p (.bool b)) fun fr => ih fr ba lo K X
        | _ => False) X
    | some (t, want) => getK fr t fun g => match g, want with
      | .p (.bool true), true | .p (.bool false), false => opVP P o.op fr ba lo (fun v ba lo => match o.split with
        | false => putK fr o.dst v fun fr => ih fr ba lo K X
        | true => match v with
          | .p (.bool b) => splitB b fun b => putK fr o.dst (.p (.bool b)) fun fr => ih fr ba lo K X
          | _ => False) X
      | .p (.bool true), false | .p (.bool false), true | .p (.tup []), true | .p (.tup []), false => putK fr o.dst (.p (.tup [])) fun fr => ih fr ba lo K X
      | _, _ => False
def opsPV (P : Program) (l : List IO_) : OPV := List.rec (motive := fun _ => OPV) (fun fr ba lo K X => K fr ba lo) (fun o _ ih => opsPStep P o ih) l

/-- What an operation does with objects: 0 nothing, 1 it looks, 2 it turns, 3 it makes a new one. -/
def effect : IOp → Nat
  | .load _ _ | .isNilS _ _ | .ofBytes _ | .call _ _ | .callv _ _ | .look _ _ _ _ _ | .len _ | .elemA _ _ _ | .fieldA _ _ | .cutL _ _ _ _ _ => 1
  | .alloc _ | .box _ | .nilb _ => 3
  | .store _ _ _ | .app _ _ _ _ | .appS _ _ | .mkmap | .mset _ _ _ _ | .mkmapA | .mkmapH _ | .mdel _ _ _ | .ment _ _ _ _ | .msto _ _ _ | .mkA _ _ _ _ | .clr _ _ _ | .appF _ _ _ _ | .mk _ _ _ _ _ | .callE _ _ | .callP _ _ | .callvP _ _ | .throw _ | .bad => 2
  | .lit own _ _ _ _ => if own then 2 else 0
  | _ => 0

/-! Where an operation that looks may come behind one that turns: what it saw it must see then, too. -/
abbrev LG := List (Nat × IOp × FR × AV)
def lookAgain (P : Program) (l : LG) : List Ob → List Ob → Prop → Prop :=
  List.rec (motive := fun _ => List Ob → List Ob → Prop → Prop) (fun ba lo K => K) (fun x _ ih ba lo K => opV P true x.2.1 x.2.2.1 ba lo fun v _ _ => v = x.2.2.2 ∧ ih ba lo K) l
/-- Those that stand ahead of it in every order need not look again. -/
def freeK (bits : Nat) (l : LG) : (LG → Prop) → Prop :=
  List.rec (motive := fun _ => (LG → Prop) → Prop) (fun k => k []) (fun x _ ih k => match x with
    | (n, y) => match bits.testBit n with
      | true => ih k
      | false => ih fun r => k ((n, y) :: r)) l
def logS (P : Program) (bits idx : Nat) (i : IOp) (fr : FR) (v : AV) (log : LG) (ba lo : List Ob) (K : LG → Prop) : Prop :=
  match effect i with
  | 0 => K log
  | 1 => K ((idx, i, fr, v) :: log)
  | _ => freeK bits log fun log => lookAgain P log ba lo (K log)
def opsEStep (P : Program) (bits idx : Nat) (o : IO_) (ih : LG → OV) : LG → OV := fun log fr ba lo K => match o.guard with
    | none => opV P true o.op fr ba lo fun v ba lo => logS P bits idx o.op fr v log ba lo fun log => match o.split with
      | false => putK fr o.dst v fun fr => ih log fr ba lo K
      | true => match v with
        | .p (.bool b) => splitB b fun b => putK fr o.dst (.p (.bool b)) fun fr => ih log fr ba lo K
        | _ => False
    | some (t, want) => getK fr t fun g => match g, want with
      | .p (.bool true), true | .p (.bool false), false => opV P true o.op fr ba lo fun v ba lo => logS P bits idx o.op fr v log ba lo fun log => match o.split with
        | false => putK fr o.dst v fun fr => ih log fr ba lo K
        | true => match v with
          | .p (.bool b) => splitB b fun b => putK fr o.dst (.p (.bool b)) fun fr => ih log fr ba lo K
          | _ => False
      | .p (.bool true), false | .p (.bool false), true | .p (.tup []), true | .p (.tup []), false => putK fr o.dst (.p (.tup [])) fun fr => ih log fr ba lo K
      | _, _ => False
def opsE (P : Program) (l : List IO_) : List Nat → Nat → LG → OV := List.rec (motive := fun _ => List Nat → Nat → LG → OV) (fun _ _ _ fr ba lo K => K fr ba lo) (fun o _ ih bs idx => opsEStep P (bs.headD 0) idx o (ih bs.tail (idx + 1))) l

/-- What is to be shown at each way out of a piece: of a piece with more behind it, of a block. -/
def thenQ (K : FR → List Ob → List Ob → Prop) (Q : Exit → FR → List Ob → List Ob → Prop) : Exit → FR → List Ob → List Ob → Prop
  | .normal => K
  | e => Q e
def blockQ (id : Nat) (Q : Exit → FR → List Ob → List Ob → Prop) : Exit → FR → List Ob → List Ob → Prop
  | .exit i => bif Nat.beq i id then Q .normal else Q (.exit i)
  | e => Q e

/-- Behind a round: back to the places that count, and to as many objects as there were at first, where nothing names a later one. -/
def roundQ (ks : List Nat) (n : Nat) (R : FR → List Ob → List Ob → Prop) (fr : FR) (ba lo : List Ob) : Prop :=
  projK ks fr fun fr => match frLowL n fr && obsLowL n (lo.take n) with
    | true => takeK n lo fun lo => R fr ba lo
    | false => R fr ba lo

def opsS (P : Program) (d : Bool) (l : List IO_) : WV := fun fr ba lo Q => opsV P d l fr ba lo (Q .normal)
/-- Where a piece gives up, places that it writes are not known. -/
def memN (t : Nat) : List Nat → Bool
  | [] => false
  | u :: r => bif Nat.beq u t then true else memN t r
def dropF (ds : List Nat) : FR → FR
  | [] => []
  | (u, x) :: r => bif memN u ds then dropF ds r else (u, x) :: dropF ds r
def dstsI : List IO_ → List Nat
  | [] => []
  | o :: r => match o.dst with
    | some d => d :: dstsI r
    | none => dstsI r
def opsPS (P : Program) (l : List IO_) : WV := fun fr ba lo Q => opsPV P l fr ba lo (Q .normal) fun ch ba lo => Q (.panic ch) (dropF (dstsI l) fr) ba lo
/-- What is to be shown of a call that may panic, where the order is open: what it does is told. -/
structure CallPE (P : Program) (f : Nat) (args : List AV) (ba lo : List Ob) (K : AV → List Ob → List Ob → Prop) (X : XV) : Prop where
  out : (∃ r ba' lo', CallPV P f args ba lo (fun r' b l => r' = r ∧ b = ba' ∧ l = lo') (fun _ _ _ => False) ∧ K r ba' lo') ∨
    ∃ ch ba' lo', CallPV P f args ba lo (fun _ _ _ => False) (fun ch' b l => ch' = ch ∧ b = ba' ∧ l = lo') ∧ X ch ba' lo'
def opVQ (P : Program) (i : IOp) (fr : FR) (ba lo : List Ob) (K : AV → List Ob → List Ob → Prop) (X : XV) : Prop :=
  match i with
  | .callP f args => evsK args fr fun as => CallPE P f as ba lo K X
  | .callvP x args => evK x fr fun x => evsK args fr fun as => match x with
    | .p (.fn (.func f)) => enters P f = true ∧ CallPE P f as ba lo K X
    | .clos (.func f) first cap => enters P f = true ∧ CallPE P f (first ++ as ++ cap) ba lo K X
    | _ => False
  | .throw x => evK x fr fun a => match a with
    | .p (.iface t v) => ∃ u, rawV v = some u ∧ X [{ v := .iface t u, recovered := false }] ba lo
    | _ => False
  | i => opV P true i fr ba lo K
def opsQStep (P : Program) (bits idx : Nat) (o : IO_) (ih : LG → OPV) : LG → OPV := fun log fr ba lo K X => match o.guard with
    | none => opVQ P o.op fr ba lo (fun v ba lo => logS P bits idx o.op fr v log ba lo fun log => match o.split with
      | false => putK fr o.dst v fun fr => ih log fr ba lo K X
      | true => match v with
        | .p (.bool b) => splitB b fun b => putK fr o.dst (.p (.bool b)) fun fr => ih log fr ba lo K X
        | _ => False) X
    | some (t, want) => getK fr t fun g => match g, want with
      | .p (.bool true), true | .p (.bool false), false => opV P true o.op fr ba lo fun v ba lo => logS P bits idx o.op fr v log ba lo fun log => match o.split with
        | false => putK fr o.dst v fun fr => ih log fr ba lo K X
        | true => match v with
          | .p (.bool b) => splitB b fun b => putK fr o.dst (.p (.bool b)) fun fr => ih log fr ba lo K X
          | _ => False
      | .p (.bool true), false | .p (.bool false), true | .p (.tup []), true | .p (.tup []), false => putK fr o.dst (.p (.tup [])) fun fr => ih log fr ba lo K X
      | _, _ => False
def opsQ (P : Program) (l : List IO_) : List Nat → Nat → LG → OPV := List.rec (motive := fun _ => List Nat → Nat → LG → OPV) (fun _ _ _ fr ba lo K X => K fr ba lo) (fun o _ ih bs idx => opsQStep P (bs.headD 0) idx o (ih bs.tail (idx + 1))) l
def opsQS (P : Program) (l : List IO_) (bs : List Nat) : WV := fun fr ba lo Q => opsQ P l bs 0 [] fr ba lo (Q .normal) fun ch ba lo => Q (.panic ch) [] ba lo
def opsES (P : Program) (l : List IO_) (bs : List Nat) : WV := fun fr ba lo Q => opsE P l bs 0 [] fr ba lo (Q .normal)
def seqS (a b : WV) : WV := fun fr ba lo Q => a fr ba lo (thenQ (fun fr ba lo => b fr ba lo Q) Q)
def condS (c : Rv) (a b : WV) : WV := fun fr ba lo Q => evK c fr fun v => match v with
    | .p (.bool t) => splitB t fun t => match t with
      | true => a fr ba lo Q
      | false => b fr ba lo Q
    | _ => False
def cutS' (ks : List Nat) (a b : WV) : WV := fun fr ba lo Q => a fr ba lo (thenQ (fun fr ba lo => projK ks fr fun fr => b fr ba lo Q) Q)
def blockS (id : Nat) (a : WV) : WV := fun fr ba lo Q => a fr ba lo (blockQ id Q)
def loopS (ks : List Nat) (a : WV) : WV := fun fr ba lo Q => projK ks fr fun fr0 => ∀ R : FR → List Ob → List Ob → Prop, (∀ fr ba' lo', a fr ba' lo' (thenQ (roundQ ks lo'.length R) Q) → R fr ba' lo') → R fr0 ba lo
def outS (e : Exit) : WV := fun fr ba lo Q => Q e fr ba lo
/-- In a piece with labels: R says what is to be shown at a label. -/
def scopeQ (R : Nat → FR → List Ob → List Ob → Prop) (Q : Exit → FR → List Ob → List Ob → Prop) : Exit → FR → List Ob → List Ob → Prop
  | .goto l => R l
  | e => Q e
def scopeS (a : WV) : WV := fun fr ba lo Q => ∀ R : Nat → FR → List Ob → List Ob → Prop, a fr ba lo (scopeQ R Q)
def labS (l : Nat) (x a : WV) : WV := fun fr ba lo Q => (∀ fr ba lo, x fr ba lo Q → Q (.goto l) fr ba lo) → a fr ba lo Q
def gotoS (l : Nat) (ks : List Nat) : WV := fun fr ba lo Q => projK ks fr fun fr => Q (.goto l) fr ba lo

/-! A range over a function. -/
def colK : FR → (List AV → Prop) → Prop
  | [], k => k []
  | (_, v) :: r, k => colK r fun vs => k (v :: vs)
def zipK : List Nat → List AV → (FR → Prop) → Prop
  | [], [], k => k []
  | t :: ts, v :: vs, k => zipK ts vs fun fr => k ((t, v) :: fr)
  | _, _, _ => False
def setPsK : List Nat → List AV → FR → (FR → Prop) → Prop
  | [], [], fr, k => k fr
  | t :: ts, v :: vs, fr, k => setK fr t v fun fr => setPsK ts vs fr k
  | _, _, _, _ => False
/-- A round is over. -/
def roundK (k l : Nat) (r : Loop) (st : LSt) (b : Bool) (K : AV → List Ob → List Ob → Prop) (ba lo : List Ob) : Prop :=
  atK k lo fun o => match o with
    | .loop l' r' ks cs .busy => (l' = l ∧ r' = r) ∧ setAtK k lo (.loop l r ks cs st) fun lo => K (.p (.bool b)) ba lo
    | _ => False
def roundE (k l : Nat) (r : Loop) (K : AV → List Ob → List Ob → Prop) : Exit → FR → List Ob → List Ob → Prop
  | .normal, _, ba, lo => roundK k l r .ready true K ba lo
  | .ret, _, ba, lo => roundK k l r (.done .ret) false K ba lo
  | .exit i, _, ba, lo => roundK k l r (.done (.exit i)) false K ba lo
  | .goto i, _, ba, lo => roundK k l r (.done (.goto i)) false K ba lo
  | _, _, _, _ => False
/-- A round: the loop's variables, the body. -/
def roundV (k l : Nat) (r : Loop) (ps : List Nat) (a b : WV) (pl : List AV) (ba lo : List Ob) (K : AV → List Ob → List Ob → Prop) : Prop :=
  atK k lo fun o => match o with
    | .loop l' r' ks cs .ready => (l' = l ∧ r' = r) ∧ zipK ks cs fun fr => setPsK ps pl fr fun fr => a fr ba lo (thenQ (fun fr ba lo => atK k lo fun o => match o with
        | .loop l' r' ks cs .ready => (l' = l ∧ r' = r) ∧ setAtK k lo (.loop l r ks cs .busy) fun lo => b fr ba lo (roundE k l r K)
        | _ => False) fun _ _ _ _ => False)
    | _ => False
/-- Behind the loop. -/
def loopEndK (k l : Nat) (r : Loop) (Q : Exit → FR → List Ob → List Ob → Prop) : AV → List Ob → List Ob → Prop := fun _ ba lo => atK k lo fun o => match o with
    | .loop l' r' ks cs st => (l' = l ∧ r' = r) ∧ setAtK k lo (.loop l r ks cs .over) fun lo => zipK ks cs fun fr => match st with
      | .ready => Q .normal fr ba lo
      | .done .ret => Q .ret fr ba lo
      | .done (.exit i) => Q (.exit i) fr ba lo
      | .done (.goto i) => Q (.goto i) fr ba lo
      | _ => False
    | _ => False
def rangeCallK (P : Program) (l : Nat) (g : AV) (ba lo : List Ob) (K : AV → List Ob → List Ob → Prop) : Prop :=
  match g with
  | .p (.fn (.func f)) => enters P f = true ∧ CallVC P f [.p (.fn (.yield l))] ba lo K
  | .clos (.func f) [] cap => enters P f = true ∧ CallVC P f (.p (.fn (.yield l)) :: cap) ba lo K
  | _ => False
def rangeS (P : Program) (ks : List Nat) (x : Rv) (ps : List Nat) (nr : Bool) (a b : WV) : WV := fun fr ba lo Q => projK ks fr fun fr0 => evK x fr fun g => nr = true ∧ colK fr0 fun cs => ∀ (l : Nat) (r : Loop), pushK lo (.loop l r ks cs .ready) fun k lo1 =>
  (∀ (pl : List AV) (ba' lo' : List Ob) (K : AV → List Ob → List Ob → Prop), roundV k l r ps a b pl ba' lo' K → YieldVC P l pl ba' lo' K) → rangeCallK P l g ba lo1 (loopEndK k l r Q)

def W (P : Program) (c : IC) : WV :=
  IC.rec (motive := fun _ => WV) (outS .normal) (fun l => opsS P false l) (fun l => opsS P true l) (fun l bs => opsES P l bs) (fun _ _ a b => seqS a b) (fun c _ _ a b => condS c a b) (fun ks _ _ a b => cutS' ks a b)
    (fun id _ a => blockS id a) (fun ks _ a => loopS ks a) (fun id => outS (.exit id)) (outS .ret) (fun _ _ _ _ => False) (fun _ a => scopeS a) (fun l _ _ x a => labS l x a) (fun _ => outS .normal) (fun l ks => gotoS l ks) (fun ks x ps a0 b0 a b => rangeS P ks x ps (a0.noR && b0.noR) a b) (fun l => opsPS P l) (fun l bs => opsQS P l bs) c

theorem W_cond (P : Program) (c : Rv) (a b : IC) (fr : FR) (ba lo : List Ob) (Q : Exit → FR → List Ob → List Ob → Prop) : W P (.cond c a b) fr ba lo Q = evK c fr fun v => match v with
    | .p (.bool t) => splitB t fun t => match t with
      | true => W P a fr ba lo Q
      | false => W P b fr ba lo Q
    | _ => False := rfl
theorem W_cut (P : Program) (ks : List Nat) (a b : IC) (fr : FR) (ba lo : List Ob) (Q : Exit → FR → List Ob → List Ob → Prop) : W P (.cut ks a b) fr ba lo Q = W P a fr ba lo (thenQ (fun fr ba lo => projK ks fr fun fr => W P b fr ba lo Q) Q) := rfl
theorem W_loop (P : Program) (ks : List Nat) (a : IC) (fr : FR) (ba lo : List Ob) (Q : Exit → FR → List Ob → List Ob → Prop) : W P (.loop ks a) fr ba lo Q = projK ks fr fun fr0 => ∀ R : FR → List Ob → List Ob → Prop, (∀ fr ba' lo', W P a fr ba' lo' (thenQ (roundQ ks lo'.length R) Q) → R fr ba' lo') → R fr0 ba lo := rfl

inductive IRes where
  | tmp (t : Nat)
  | cell (t : Nat) (n : Option Nat)
  deriving Inhabited

structure IF where
  params : Nat
  ntmps : Nat
  res : List IRes
  body : IC
  deriving Inhabited

def resK (fr : FR) (ba lo : List Ob) (r : IRes) (K : AV → Prop) : Prop :=
  match r with
  | .tmp t => getK fr t K
  | .cell t n => getK fr t fun a => match a with
    | .ref (.l m) off => atK m lo fun o => match o with
      | .cells cs => dropK off cs fun cs => readAK n cs K
      | _ => False
    | _ => False

def ressK (fr : FR) (ba lo : List Ob) : List IRes → (List AV → Prop) → Prop
  | [], K => K []
  | r :: rs, K => resK fr ba lo r fun a => ressK fr ba lo rs fun as => K (a :: as)

/-- What lies within what is handed back. -/
def frz0 (lo : List Ob) (a : AV) (y : PV) : Prop :=
  match a with
  | .p v => y = v
  | .view (.l m) g sz len => atK m lo fun o => match o with
    | .buf g' sz' es => (g = g' ∧ sz = sz' ∧ len ≤ es.length) ∧ y = .list sz (es.take len)
    | _ => False
  | _ => False
def frzBA (lo : List Ob) (len : Nat) (es : List AV) (K : PV → Prop) : Prop :=
  ∃ ys : List PV, (len ≤ es.length ∧ ys.length = len ∧ ∀ (j : Nat) (a : AV) (y : PV), es[j]? = some a → ys[j]? = some y → frz0 lo a y) ∧ K (.list 1 ys)
def frz2K (lo : List Ob) (a : AV) (K : PV → Prop) : Prop :=
  match a with
  | .p v => K v
  | .view (.l m) g sz len => atK m lo fun o => match o with
    | .buf g' sz' es => (g = g' ∧ sz = sz') ∧ ∃ ys, len ≤ es.length ∧ es.take len = ys ∧ K (.list sz ys)
    | .bufA g' es => (g = g' ∧ sz = 1) ∧ frzBA lo len es K
    | _ => False
  | _ => False
def frz2sK (lo : List Ob) : List AV → (List PV → Prop) → Prop
  | [], K => K []
  | a :: r, K => frz2K lo a fun y => frz2sK lo r fun ys => K (y :: ys)
/-- A value handed back: what it holds of the call's own is written no more. -/
def frzK (lo : List Ob) (a : AV) (K : AV → Prop) : Prop :=
  match a with
  | .p v => K (.p v)
  | .view (.l m) g sz len => atK m lo fun o => match o with
    | .buf g' sz' es => (g = g' ∧ sz = sz') ∧ ((∃ ys, len ≤ es.length ∧ es.take len = ys ∧ K (.p (.list sz ys))) ∨ ∃ ys sp, (0 < sz ∧ 0 < es.length) ∧ es = ys ++ sp ∧ ys.length = len ∧ K (.p (.lent sz ys sp)))
    | .bufA g' es => (g = g' ∧ sz = 1) ∧ frzBA lo len es fun y => K (.p y)
    | _ => False
  | .ref (.l m) 0 => atK m lo fun o => match o with
    | .cells cs => allPK cs (fun ps => K (.p (.ptr ps))) (frz2sK lo cs fun ps => K (.p (.ptr ps)))
    | _ => False
  | .ref (.b id) o => K (.ref (.b id) o)
  | .view (.b id) g sz len => K (.view (.b id) g sz len)
  | .mapr (.b id) => K (.mapr (.b id))
  | _ => False

def frzsK (lo : List Ob) : List AV → (List AV → Prop) → Prop
  | [], K => K []
  | a :: r, K => frzK lo a fun a => frzsK lo r fun as => K (a :: as)

def frz1K (lo : List Ob) (a : AV) (K : AV → Prop) : Prop :=
  match a with
  | .agg cs => frzsK lo cs fun cs => mkAggK cs K
  | a => frzK lo a K

def frz1sK (lo : List Ob) : List AV → (List AV → Prop) → Prop
  | [], K => K []
  | a :: r, K => frz1K lo a fun a => frz1sK lo r fun as => K (a :: as)

def retK (fr : FR) (ba lo : List Ob) (rs : List IRes) (K : AV → List Ob → Prop) : Prop :=
  ressK fr ba lo rs fun as => frz1sK lo as fun as => match as with
    | [a] => K a ba
    | as => mkTupK as fun a => K a ba

def frameOf : Nat → List AV → FR
  | _, [] => []
  | n, a :: r => (n, a) :: frameOf (n + 1) r

/-- What is to be shown of a function called with these values. -/
def endQ (f : IF) (Q : AV → List Ob → Prop) : Exit → FR → List Ob → List Ob → Prop
  | .ret, fr, ba, lo => retK fr ba lo f.res Q
  | .normal, fr, ba, lo => retK fr ba lo f.res Q
  | _, _, _, _ => False

def fnV (P : Program) (f : IF) (args : List AV) (H : List Ob) (Q : AV → List Ob → Prop) : Prop :=
  bif Nat.beq args.length f.params then W P f.body (frameOf 0 args) H [] (endQ f Q) else False

theorem splitB_dec {p : Prop} [inst : Decidable p] {K : Bool → Prop} (h1 : p → K true) (h2 : ¬ p → K false) : splitB (decide p) K := by
  by_cases h : p
  · rw [decide_eq_true h]; exact ⟨h1 h⟩
  · rw [decide_eq_false h]; exact ⟨h2 h⟩
theorem splitB_eq {α : Type} [inst : BEq α] [LawfulBEq α] {a b : α} {K : Bool → Prop} (h1 : a = b → K true) (h2 : ¬ a = b → K false) : splitB (a == b) K := by
  by_cases h : a = b
  · rw [beq_iff_eq.2 h]; exact ⟨h1 h⟩
  · rw [beq_eq_false_iff_ne.2 h]; exact ⟨h2 h⟩
theorem splitB_ne {α : Type} [inst : BEq α] [LawfulBEq α] {a b : α} {K : Bool → Prop} (h1 : ¬ a = b → K true) (h2 : a = b → K false) : splitB (a != b) K := by
  by_cases h : a = b
  · rw [bne, beq_iff_eq.2 h]; exact ⟨h2 h⟩
  · rw [bne, beq_eq_false_iff_ne.2 h]; exact ⟨h1 h⟩
theorem splitB_t {b : Bool} {K : Bool → Prop} (h : b = true) (k : K true) : splitB b K := by subst h; exact ⟨k⟩
theorem splitB_f {b : Bool} {K : Bool → Prop} (h : b = false) (k : K false) : splitB b K := by subst h; exact ⟨k⟩
theorem splitB_intro {b : Bool} {K : Bool → Prop} (h1 : b = true → K true) (h2 : b = false → K false) : splitB b K := by
  cases b
  · exact ⟨h2 rfl⟩
  · exact ⟨h1 rfl⟩

end Go.Proofs.YtgdimfogijfmiaaDoor.AD

namespace Go.Proofs.YtgdimfogijfmiaaDoor.AD
set_option linter.unusedVariables false

/-- A constant. -/
def absP : Value → Option PV
  | .bool b => some (.bool b)
  | .int k n => some (.int k n)
  | .string s => some (.str s)
  | .pointer none => some .nilp
  | .slice none 0 0 => some .nils
  | .map none => some .nilm
  | .func f ⟨[]⟩ ⟨[]⟩ => some (.fn f)
  | .nilFunc => some .nilf
  | .nilIface => some .nili
  | _ => none

def absPs : List Value → Option (List PV)
  | [] => some []
  | v :: r => match absP v, absPs r with
    | some c, some cs => some (c :: cs)
    | _, _ => none

/-- The value with which a variable of a type begins. -/
def absZ (v : Value) : Option PV :=
  match v with
  | .agg cs => (absPs cs.toList).map PV.agg
  | v => absP v

def rv : Operand → Option Rv
  | .tmp t => some (.t t)
  | .const v => (absZ v).map fun e => .v (.p e)
  | .func f => some (.v (.p (.fn (.func f))))
  | .global _ => none

def rvs : List Operand → Option (List Rv)
  | [] => some []
  | x :: r => match rv x, rvs r with
    | some c, some cs => some (c :: cs)
    | _, _ => none

def rvO : Option Operand → Option (Option Rv)
  | none => some none
  | some x => (rv x).map some

def isAggT (P : Program) (t : TypeId) : Option Bool :=
  match P.underlying t with
  | some (.struct _) | some (.array _ _) => some true
  | some _ => some false
  | none => none

/-- How a variable of a type is read: as so many cells, or as one. -/
def readT (P : Program) (t : TypeId) : Option (Option Nat) :=
  match isAggT P t, P.info? t with
  | some true, some i => some (some i.size)
  | some false, some i => if i.size = 1 then some none else none
  | _, _ => none

def sizeT (P : Program) (t : TypeId) : Option Nat := (P.info? t).map (·.size)

def placesOf (P : Program) (fields : Array Field) : Option (List (Nat × Nat)) := fields.toList.mapM (fun f => (P.info? f.type).map fun i => (f.offset, i.size))

def structParts (places : List (Nat × Nat)) : List (Nat × Operand) → Option (List (Nat × Nat × Rv))
  | [] => some []
  | (i, x) :: r => match places[i]?, rv x, structParts places r with
    | some (o, n), some v, some ps => some ((o, n, v) :: ps)
    | _, _, _ => none

def arrayParts (size : Nat) : List (Nat × Operand) → Option (List (Nat × Nat × Rv))
  | [] => some []
  | (i, x) :: r => match rv x, arrayParts size r with
    | some v, some ps => some ((i * size, size, v) :: ps)
    | _, _ => none

def sliceParts : List (Nat × Operand) → Option (List (Nat × Rv))
  | [] => some []
  | (i, x) :: r => match rv x, sliceParts r with
    | some v, some ps => some ((i, v) :: ps)
    | _, _ => none

def plainCells : List PV → Bool
  | [] => true
  | .int _ _ :: r | .str _ :: r | .bool _ :: r => plainCells r
  | _ => false

/-- What a map's keys are: texts, or whole numbers of a kind. -/
def keyT (P : Program) (t : TypeId) : Option (Option IntKind) :=
  match P.underlying t with
  | some .string => some none
  | some (.int k) => some (some k)
  | _ => none

def dmark (own : List Nat) (o : Oper) (n : Nat) : Bool := match o.dst with
  | some d => own.contains (n + d)
  | none => false
def compCall (P : Program) (fz : Bool) (c : Call) : Option IOp :=
  match c.callee, c.args.toList, c.argTypes.toList with
  | .builtin .append, [x, y], [s, t] =>
    match P.underlying s with
    | some (.slice e) => match P.info? e, P.underlying t, rv x, rv y with
      | some i, some (.slice _), some x, some y => if (i.zero.map fun z => z.cells.size) = some i.size ∧ 0 < i.size ∧ 0 < i.bytes then (if fz then some (.appF i.size i.bytes x y) else some (.app i.size i.bytes x y)) else none
      | some i, some .string, some x, some y => if (i.zero.map fun z => z.cells.size) = some i.size ∧ i.size = 1 ∧ i.bytes = 1 then some (.appS x y) else none
      | _, _, _, _ => none
    | _ => none
  | .builtin .len, [x], [t] =>
    match P.underlying t, rv x with
    | some .string, some x => some (.lenS x)
    | some (.slice _), some x => some (.len x)
    | _, _ => none
  | .builtin .delete, [x, k], [t, _] =>
    match P.underlying t, rv x, rv k with
    | some (.map kt _), some x, some k => (keyT P kt).map fun kk => .mdel kk x k
    | _, _, _ => none
  | .builtin .clear, [x], [t] =>
    match P.underlying t, rv x with
    | some (.slice e), some x => match P.info? e with
      | some i => match i.zero with
        | some z => if z.cells.size = i.size ∧ 0 < i.size then (absZ z).map fun z' => .clr i.size z' x else none
        | none => none
      | none => none
    | _, _ => none
  | .builtin .max, [x, y], _ => match rv x, rv y with
    | some x, some y => some (.max2 x y)
    | _, _ => none
  | .builtin .min, [x, y], _ => match rv x, rv y with
    | some x, some y => some (.min2 x y)
    | _, _ => none
  | .value (.func f), xs, _ => if enters P f = true then (rvs xs).map (.call f) else (rvs xs).map (.xcall f)
  | .value (.tmp t), xs, _ => (rvs xs).map (.callv (.t t))
  | _, _, _ => none

/-- Fields of one cell each, one behind the other: whole numbers, texts, bools. -/
def skOf (P : Program) (t : TypeId) : Option SK :=
  match P.underlying t with
  | some (.int k) => some (.int k)
  | some .string => some .str
  | some .bool => some .bool
  | _ => none
def plainFields (P : Program) : Nat → List Field → Option (List SK)
  | _, [] => some []
  | i, f :: r => if f.offset = i ∧ f.name ≠ "_" then (match skOf P f.type, plainFields P (i + 1) r with
    | some k, some ks => some (k :: ks)
    | _, _ => none) else none

def compO0 (P : Program) (own : List Nat) (o : Oper) : Option IOp :=
  match o.op with
  | .move x | .assign x => (rv x).map .mv
  | .pick c a b => match rv c, rv a, rv b with
    | some c, some a, some b => some (.pick c a b)
    | _, _, _ => none
  | .alloc e => match P.info? e with
    | some i => match i.zero with
      | some z => (absPs z.cells.toList).map .alloc
      | none => none
    | none => none
  | .box e x => (rv x).map fun r => if dmark own o 6000000 then .boxF r else .box r
  | .build t parts => match P.info? t with
    | some i => match i.zero, P.underlying t with
      | some z, some (.struct fields) => match absPs z.cells.toList, placesOf P fields with
        | some zs, some places => (structParts places parts.toList).map (.build zs)
        | _, _ => none
      | some z, some (.array _ e) => match absPs z.cells.toList, P.info? e with
        | some zs, some ie => (arrayParts ie.size parts.toList).map (.build zs)
        | _, _ => none
      | _, _ => none
    | none => none
  | .buildSlice t len parts => match P.underlying t with
    | some (.slice e) => match P.info? e with
      | some i => match i.zero with
        | some z => match absZ z, sliceParts parts.toList with
          | some z', some ps => if len * i.size ≤ 16777216 ∧ len * i.size ≠ 0 ∧ z.cells.size = i.size then some (.lit (match o.dst with | some d => own.contains d | none => false) i.size z' len ps) else if len = 0 ∧ ps.isEmpty = true then some .litZ else none
          | _, _ => none
        | none => none
      | none => none
    | _ => none
  | .load t a => match readT P t, rv a with
    | some n, some a => some (.load n a)
    | _, _ => none
  | .store t a x => match sizeT P t, rv a, rv x with
    | some n, some a, some x => some (.store n a x)
    | _, _, _ => none
  | .nilCheck x => (rv x).map .nilck
  | .panic x => (rv x).map .throw
  | .makeInterface t x => match P.underlying t, rv x with
    | some (.struct _), some x => some (.mkI t x)
    | _, _ => none
  | .typeAssert x _ t true => match P.underlying t, rv x with
    | some (.struct _), some x => some (.tas t x)
    | _, _ => none
  | .binOp op t x y _ => match P.underlying t, rv x, rv y with
    | some (.int _), some x, some y => some (.bin op x y)
    | some .string, some x, some y => some (.bin op x y)
    | some .bool, some x, some y => match op with
      | .eql => some (.eqb false x y)
      | .neq => some (.eqb true x y)
      | _ => none
    | some (.struct fs), some x, some y => if P.stoodInHeld t = false ∧ P.eqGuardType P.depth t = false then (match op, plainFields P 0 fs.toList with
      | .eql, some ks => some (.eqs false ks x y)
      | .neq, some ks => some (.eqs true ks x y)
      | _, _ => none) else none
    | some (.slice _), some x, some (.v (.p .nils)) => match op with
      | .eql => some (.isNilS false x)
      | .neq => some (.isNilS true x)
      | _ => none
    | some (.func _ _ _), some x, some (.v (.p .nilf)) => match op with
      | .eql => some (.isNil false x)
      | .neq => some (.isNil true x)
      | _ => none
    | some (.interface _), some x, some (.v (.p .nili)) => match op with
      | .eql => some (.isNilI false x)
      | .neq => some (.isNilI true x)
      | _ => none
    | _, _, _ => none
  | .unOp .not _ x => (rv x).map .not
  | .unOp .neg _ x => (rv x).map .neg
  | .convert s d x => match P.underlying s, P.underlying d, rv x with
    | some (.int _), some (.int k), some x => some (.conv k x)
    | some .string, some .string, some x => some (.mvS x)
    | some .string, some (.slice e), some x => match P.underlying e with
      | some (.int .u8) => some (.toBytes x)
      | _ => none
    | some (.slice e), some .string, some x => match P.underlying e with
      | some (.int .u8) => some (.ofBytes x)
      | _ => none
    | _, _, _ => none
  | .slice t x lo hi mx => match P.underlying t, rv x, rvO lo, rvO hi, rvO mx with
    | some .string, some x, some lo, some hi, some none => some (.cutS x lo hi)
    | some (.slice e), some x, some lo, some hi, some mx => match sizeT P e with
      | some n => some (.cutL n x lo hi mx)
      | none => none
    | _, _, _, _, _ => none
  | .fieldAddr s x f => match P.underlying s, rv x with
    | some (.struct fields), some x => match fields[f]? with
      | some fd => match sizeT P fd.type with
        | some n => if n = 0 then none else some (.fieldA fd.offset x)
        | none => none
      | none => none
    | _, _ => none
  | .field t x f => match P.underlying t, rv x with
    | some (.struct fields), some x => match fields[f]? with
      | some fd => (readT P fd.type).map fun n => .fld fd.offset n x
      | none => none
    | _, _ => none
  | .indexAddr t x i => match P.underlying t, rv x, rv i with
    | some (.slice e), some x, some i => (sizeT P e).map fun n => .elemA n x i
    | some (.array len e), some x, some i => (sizeT P e).map fun n => .arrA n len x i
    | _, _, _ => none
  | .index t x i => match P.underlying t, rv x, rv i with
    | some (.array len e), some x, some i => match sizeT P e, readT P e with
      | some sz, some n => some (.idxA sz len n x i)
      | _, _ => none
    | some .string, some x, some i => some (.idxS x i)
    | _, _, _ => none
  | .makeFunc f first cap => match rvs first.toList, rvs cap.toList with
    | some as, some bs => some (.mkfn f as bs)
    | _, _ => none
  | .extract x i => (rv x).map fun x => .ext x i
  | .call c => compCall P (dmark own o 5000000) c
  | .makeMap _ none => if dmark own o 3000000 then some .mkmapA else some .mkmap
  | .makeMap t (some r) => match P.underlying t, rv r with
    | some (.map _ _), some x => some (.mkmapH x)
    | _, _ => none
  | .mapEntry t m k => match P.underlying t, rv m, rv k with
    | some (.map kt et), some m, some k => match keyT P kt, (P.info? et).bind (·.zero) with
      | some kk, some z => (absZ z).map fun z => .ment kk z m k
      | _, _ => none
    | _, _, _ => none
  | .entryStore t m st x => match P.underlying t, rv m, rv st, rv x with
    | some (.map _ _), some m, some st, some x => some (.msto m st x)
    | _, _, _, _ => none
  | .makeSlice t l c => match P.underlying t, rv l, rv c with
    | some (.slice e), some l, some c => match P.info? e with
      | some i => match i.zero with
        | some z => if z.cells.size = i.size ∧ 0 < i.size ∧ 0 < i.bytes then (if dmark own o 4000000 then (match absZ z with
          | some .nils => if i.size = 1 then some (.mkA i.bytes .nils l c) else none
          | _ => none) else (absZ z).map fun z' => .mk i.size i.bytes z' l c) else none
        | none => none
      | none => none
    | _, _, _ => none
  | .lookup t x i ok => match P.underlying t, rv x, rv i with
    | some (.map kt et), some x, some i => match keyT P kt, (P.info? et).bind (·.zero) with
      | some kk, some z => (absZ z).map fun z => .look kk z ok x i
      | _, _ => none
    | _, _, _ => none
  | .mapUpdate t m k x => match P.underlying t, rv m, rv k, rv x with
    | some (.map kt _), some m, some k, some x => (keyT P kt).map fun kk => .mset kk m k x
    | _, _, _, _ => none
  | _ => none

/-- An operation that is not read may stand where nobody comes. -/
def markE (own : List Nat) (o : Oper) (i : IOp) : IOp :=
  match i with
  | .call f a => if own.contains (1000000 + f) then .callP f a else if (match o.dst with | some d => own.contains d | none => false) then .callE f a else .call f a
  | .callv x a => if own.contains 2000000 then .callvP x a else .callv x a
  | .mv (.v (.p .nils)) => match o.dst with
    | some d => match own.find? fun n => Nat.blt 999 n && Nat.blt n 1000000 && Nat.beq (n % 1000) d with
      | some n => .nilb (n / 1000)
      | none => .mv (.v (.p .nils))
    | none => .mv (.v (.p .nils))
  | i => i
def isP : IOp → Bool
  | .callP _ _ | .callvP _ _ | .throw _ => true
  | _ => false
theorem markE_out (own : List Nat) (o : Oper) (j : IOp) : markE own o j = j ∨ (∃ f a, j = .call f a ∧ markE own o j = .callE f a) ∨ (∃ sz, j = .mv (.v (.p .nils)) ∧ markE own o j = .nilb sz) ∨
    (∃ f a, j = .call f a ∧ markE own o j = .callP f a) ∨ ∃ x a, j = .callv x a ∧ markE own o j = .callvP x a := by
  unfold markE
  split
  · split
    · exact .inr (.inr (.inr (.inl ⟨_, _, rfl, rfl⟩)))
    generalize (match o.dst with | some d => own.contains d | none => false) = b
    cases b
    · exact .inl rfl
    · exact .inr (.inl ⟨_, _, rfl, rfl⟩)
  · split
    · exact .inr (.inr (.inr (.inr ⟨_, _, rfl, rfl⟩)))
    · exact .inl rfl
  · split
    · split
      · exact .inr (.inr (.inl ⟨_, rfl, rfl⟩))
      · exact .inl rfl
    · exact .inl rfl
  · exact .inl rfl
def compO (P : Program) (own : List Nat) (o : Oper) : Option IOp := some (markE own o ((compO0 P own o).getD .bad))

/-- Is what an operation answers asked by a later one's guard? -/
def asked (ops : List Oper) (i : Nat) : Bool := ops.any fun o => match o.guard with
  | some (j, _) => j == i
  | none => false

def compI (P : Program) (N : Nat) (own : List Nat) (ops : List Oper) (i : Nat) (o : Oper) : Option IO_ :=
  if (o.dst.all fun d => Nat.blt d N) = false then none else
  match compO P own o with
  | none => none
  | some op => match o.guard with
    | none => some ⟨o.dst, none, asked ops i, op⟩
    | some (j, b) => match ops[j]? with
      | some g => match g.dst with
        | some t => some ⟨o.dst, some (t, b), asked ops i, op⟩
        | none => none
      | none => none

def compOps (P : Program) (N : Nat) (own : List Nat) (all : List Oper) : Nat → List Oper → Option (List IO_)
  | _, [] => some []
  | i, o :: r => match compI P N own all i o, compOps P N own all (i + 1) r with
    | some x, some xs => some (x :: xs)
    | _, _ => none

/-- May two operations whose order is open come in either order? (The first one stands ahead in the text.) -/
def freePair (m : Bool) (ops : Array Oper) (x y : Oper) (ex ey : Nat) : Bool := x.apart ops y && (ex == 0 || ey == 0 || (ex == 1 && (m || ey == 1 || ey == 3)))

/-- For each operation those that stand ahead of it in every order, as a number's bits. -/
def befores (ops : List Oper) : List Nat :=
  ops.foldl (fun acc o => acc ++ [o.after.toList.foldl (fun s e => if Region.binds .any e then s ||| 2 ^ e.on ||| acc.getD e.on 0 else s) 0]) []

def drawOk (m : Bool) (ops : List Oper) (is : List IO_) : Bool :=
  Region.noSelect ops.toArray &&
  (let bs := befores ops
   (List.range ops.length).all fun j => (List.range j).all fun i => (bs.getD j 0).testBit i || freePair m ops.toArray (ops.getD i default) (ops.getD j default) (effect (is.getD i default).op) (effect (is.getD j default).op)) &&
  ops.zipIdx.all fun (o, i) => o.after.toList.all fun e => !Region.binds .any e || decide (e.on < i)

/-- Where one of them may panic: nothing later comes ahead of that. -/
def drawOkP (ops : List Oper) (is : List IO_) : Bool :=
  drawOk true ops is &&
  (let bs := befores ops
   (List.range ops.length).all fun j => (List.range j).all fun i => !isP (is.getD i default).op || (bs.getD j 0).testBit i) &&
  is.all fun o => !isP o.op || o.guard.isNone

/-- What stands behind a label. -/
def findI : IC → Nat → Option IC
  | .seq a b, l => match findI a l with
    | some r => some (.seq r b)
    | none => findI b l
  | .label l', l => if l' == l then some .skip else none
  | _, _ => none
def labelsI : IC → List Nat
  | .seq a b => labelsI a ++ labelsI b
  | .label l => [l]
  | _ => []
def chainI (x : IC) : List Nat → IC
  | [] => x
  | l :: ls => match findI x l with
    | some y => .lab l y (chainI x ls)
    | none => chainI x ls

def compC (P : Program) (N : Nat) (own : List Nat) : Code → Option IC
  | .skip => some .skip
  | .region _ ops draw => match compOps P N own ops.toList 0 ops.toList with
    | some is => if is.any (fun o => isP o.op) then (if draw then (if drawOkP ops.toList is then some (.qops is (befores ops.toList)) else some .bad) else some (.pops is)) else if draw then (if drawOk false ops.toList is then some (.dops is) else if drawOk true ops.toList is then some (.eops is (befores ops.toList)) else none) else some (.ops is)
    | none => none
  | .seq a b => match compC P N own a, compC P N own b with
    | some a, some b => some (.seq a b)
    | _, _ => none
  | .cond c a b => match rv c, compC P N own a, compC P N own b with
    | some c, some a, some b => some (.cond c a b)
    | _, _, _ => none
  | .block id a => (compC P N own a).map (.block id)
  | .loop a => (compC P N own a).map (.loop [])
  | .exit id => some (.exit id)
  | .ret => some .ret
  | .scope c => (compC P N own c).map fun x => .scope (chainI x (labelsI x))
  | .label l => some (.label l)
  | .goto l => some (.goto l [])
  | .rangeFunc g ps a b => match rv g, compC P N own a, compC P N own b with
    | some r, some x, some y => if ps.toList.all (fun t => Nat.blt t N) = true then some (.rangeF [] r ps.toList x y) else none
    | _, _, _ => none
  | _ => some .bad

def compR (P : Program) : List ResultVar → Option (List IRes)
  | [] => some []
  | .tmp t :: r => (compR P r).map (.tmp t :: ·)
  | .cell t ty :: r => match readT P ty, compR P r with
    | some n, some rs => some (.cell t n :: rs)
    | _, _ => none

def compF (P : Program) (own : List Nat) (f : Nat) : Option IF :=
  match P.funcs[f]? with
  | none => none
  | some fn => match fn.body with
    | none => none
    | some c => match compC P fn.ntmps own c, compR P fn.results.toList with
      | some ic, some rs => if fn.params.size + fn.nfree ≤ fn.ntmps ∧ enters P f = true ∧ P.follows .mixedOrders = true then some ⟨fn.params.size + fn.nfree, fn.ntmps, rs, ic⟩ else none
      | _, _ => none

def IF.bare (f : IF) : IF := ⟨f.params, f.ntmps, f.res, f.body.bare⟩

/-! ### short names, for printed texts -/
abbrev O (d : Nat) (op : IOp) : IO_ := ⟨some d, none, false, op⟩
abbrev OS (d : Nat) (op : IOp) : IO_ := ⟨some d, none, true, op⟩
abbrev OG (d t : Nat) (b : Bool) (op : IOp) : IO_ := ⟨some d, some (t, b), false, op⟩
abbrev OGS (d t : Nat) (b : Bool) (op : IOp) : IO_ := ⟨some d, some (t, b), true, op⟩
abbrev OZ (op : IOp) : IO_ := ⟨none, none, false, op⟩
abbrev OZG (t : Nat) (b : Bool) (op : IOp) : IO_ := ⟨none, some (t, b), false, op⟩
abbrev I (n : Int) : Rv := .v (.p (.int .i64 n))
abbrev U (n : Int) : Rv := .v (.p (.int .u8 n))

end Go.Proofs.YtgdimfogijfmiaaDoor.AD

namespace Go.Proofs.YtgdimfogijfmiaaDoor.AD
set_option linter.unusedVariables false

def getF : FR → Nat → AV
  | [], _ => .p .undef
  | (u, x) :: r, t => bif Nat.beq u t then x else getF r t
def setF : FR → Nat → AV → FR
  | [], t, v => [(t, v)]
  | (u, x) :: r, t, v => bif Nat.beq u t then (u, v) :: r else (u, x) :: setF r t v
def evF (x : Rv) (fr : FR) : AV :=
  match x with
  | .t n => getF fr n
  | .v a => a

theorem getK_eq : ∀ (fr : FR) (t : Nat) (k : AV → Prop), getK fr t k = k (getF fr t)
  | [], t, k => rfl
  | (u, x) :: r, t, k => by
    simp only [getK, getF]
    cases Nat.beq u t
    · exact getK_eq r t k
    · rfl
theorem setK_eq : ∀ (fr : FR) (t : Nat) (v : AV) (k : FR → Prop), setK fr t v k = k (setF fr t v)
  | [], t, v, k => rfl
  | (u, x) :: r, t, v, k => by
    simp only [setK, setF]
    cases Nat.beq u t
    · exact setK_eq r t v fun r' => k ((u, x) :: r')
    · rfl
theorem evK_eq (x : Rv) (fr : FR) (k : AV → Prop) : evK x fr k = k (evF x fr) := by
  cases x
  · exact getK_eq _ _ _
  · rfl
theorem evsK_eq : ∀ (l : List Rv) (fr : FR) (k : List AV → Prop), evsK l fr k = k (l.map fun x => evF x fr)
  | [], fr, k => rfl
  | x :: r, fr, k => by simp only [evsK, evK_eq, evsK_eq r, List.map_cons]
theorem projK_eq : ∀ (ks : List Nat) (fr : FR) (k : FR → Prop), projK ks fr k = k (ks.map fun t => (t, getF fr t))
  | [], fr, k => rfl
  | t :: r, fr, k => by simp only [projK, getK_eq, projK_eq r, List.map_cons]

theorem beq_ne {t u : Nat} (h : ¬ t = u) : Nat.beq t u = false := by
  cases hb : Nat.beq t u with
  | true => exact absurd (Nat.eq_of_beq_eq_true hb) h
  | false => rfl
theorem get_set : ∀ (fr : FR) (t u : Nat) (v : AV), getF (setF fr t v) u = if t = u then v else getF fr u
  | [], t, u, v => by
    simp only [setF, getF]
    by_cases h : t = u
    · subst h; simp
    · rw [if_neg h]
      have : Nat.beq t u = false := beq_ne h
      rw [this]; rfl
  | (x, y) :: r, t, u, v => by
    simp only [setF]
    cases hx : Nat.beq x t with
    | true =>
      have e : x = t := Nat.eq_of_beq_eq_true hx
      subst e
      simp only [cond_true, getF]
      by_cases h : x = u
      · subst h; simp
      · have : Nat.beq x u = false := beq_ne h
        rw [this, if_neg h]; rfl
    | false =>
      simp only [cond_false, getF]
      cases hu : Nat.beq x u with
      | true =>
        have e : x = u := Nat.eq_of_beq_eq_true hu
        have h : ¬ t = u := by
          intro e2; subst e2; subst e; simp at hx
        simp only [cond_true]; rw [if_neg h]
      | false => simp only [cond_false]; exact get_set r t u v

theorem get_proj : ∀ (ks : List Nat) (fr : FR) (t : Nat), getF (ks.map fun t => (t, getF fr t)) t = getF fr t ∨ getF (ks.map fun t => (t, getF fr t)) t = .p .undef
  | [], fr, t => .inr rfl
  | x :: r, fr, t => by
    simp only [List.map_cons, getF]
    cases hx : Nat.beq x t with
    | true => rw [Nat.eq_of_beq_eq_true hx]; exact .inl rfl
    | false => exact get_proj r fr t

theorem dropK_out {α : Type} : ∀ (n : Nat) (l : List α) (k : List α → Prop), dropK n l k → n ≤ l.length ∧ k (l.drop n)
  | 0, l, k, h => ⟨Nat.zero_le _, h⟩
  | n + 1, [], k, h => h.elim
  | n + 1, x :: r, k, h => by
    obtain ⟨h1, h2⟩ := dropK_out n r k h
    exact ⟨Nat.succ_le_succ h1, h2⟩
theorem takeK_out {α : Type} : ∀ (n : Nat) (l : List α) (k : List α → Prop), takeK n l k → n ≤ l.length ∧ k (l.take n)
  | 0, l, k, h => ⟨Nat.zero_le _, by simpa [takeK] using h⟩
  | n + 1, [], k, h => h.elim
  | n + 1, x :: r, k, h => by
    obtain ⟨h1, h2⟩ := takeK_out n r _ h
    exact ⟨Nat.succ_le_succ h1, h2⟩
theorem takeK_in {α : Type} : ∀ (n : Nat) (l : List α) (k : List α → Prop), n ≤ l.length → k (l.take n) → takeK n l k
  | 0, l, k, _, h => by simpa [takeK] using h
  | n + 1, [], k, h, _ => absurd h (by simp)
  | n + 1, x :: r, k, h, h2 => takeK_in n r (fun r' => k (x :: r')) (by simpa using h) h2
theorem atK_out {α : Type} : ∀ (n : Nat) (l : List α) (k : α → Prop), atK n l k → ∃ x, l[n]? = some x ∧ k x
  | 0, [], k, h => h.elim
  | _ + 1, [], k, h => h.elim
  | 0, x :: r, k, h => ⟨x, rfl, h⟩
  | n + 1, x :: r, k, h => by
    obtain ⟨y, h1, h2⟩ := atK_out n r k h
    exact ⟨y, h1, h2⟩
theorem setAtK_out {α : Type} : ∀ (n : Nat) (l : List α) (v : α) (k : List α → Prop), setAtK n l v k → n < l.length ∧ k (l.set n v)
  | 0, [], v, k, h => h.elim
  | _ + 1, [], v, k, h => h.elim
  | 0, x :: r, v, k, h => ⟨by simp, h⟩
  | n + 1, x :: r, v, k, h => by
    obtain ⟨h1, h2⟩ := setAtK_out n r v _ h
    exact ⟨by simpa using h1, h2⟩
theorem spliceK_out {α : Type} : ∀ (n : Nat) (vs l : List α) (k : List α → Prop), spliceK n vs l k → n + vs.length ≤ l.length ∧ k (l.take n ++ vs ++ l.drop (n + vs.length))
  | 0, [], [], k, h => ⟨by simp, by simpa [spliceK] using h⟩
  | 0, v :: vs, [], k, h => h.elim
  | _ + 1, vs, [], k, h => by cases vs <;> exact h.elim
  | 0, [], x :: r, k, h => ⟨by simp, by simpa [spliceK] using h⟩
  | 0, v :: vs, x :: r, k, h => by
    obtain ⟨h1, h2⟩ := spliceK_out 0 vs r _ h
    exact ⟨by simp at h1 ⊢; omega, by simpa [Nat.add_comm] using h2⟩
  | n + 1, vs, x :: r, k, h => by
    obtain ⟨h1, h2⟩ := spliceK_out n vs r _ h
    refine ⟨by simp at h1 ⊢; omega, ?_⟩
    have e : n + 1 + vs.length = (n + vs.length) + 1 := by omega
    rw [e]
    simpa using h2
theorem pushK_eq {α : Type} : ∀ (l : List α) (v : α) (k : Nat → List α → Prop), pushK l v k = k l.length (l ++ [v])
  | [], v, k => rfl
  | x :: r, v, k => by simp only [pushK, pushK_eq r, List.length_cons, List.cons_append]
theorem dropK_in {α : Type} : ∀ (n : Nat) (l : List α) (k : List α → Prop), n ≤ l.length → k (l.drop n) → dropK n l k
  | 0, l, k, _, h => h
  | n + 1, [], k, h, _ => absurd h (by simp)
  | n + 1, x :: r, k, h, h2 => dropK_in n r k (by simpa using h) h2
theorem atK_in {α : Type} : ∀ (n : Nat) (l : List α) (k : α → Prop) (x : α), l[n]? = some x → k x → atK n l k
  | 0, [], k, x, h, _ => by simp at h
  | _ + 1, [], k, x, h, _ => by simp at h
  | 0, y :: r, k, x, h, h2 => by simp at h; subst h; exact h2
  | n + 1, y :: r, k, x, h, h2 => atK_in n r k x (by simpa using h) h2
theorem spliceK_in {α : Type} : ∀ (n : Nat) (vs l : List α) (k : List α → Prop), n + vs.length ≤ l.length → k (l.take n ++ vs ++ l.drop (n + vs.length)) → spliceK n vs l k
  | 0, [], [], k, _, h => by simpa [spliceK] using h
  | 0, v :: vs, [], k, h, _ => by simp at h
  | n + 1, vs, [], k, h, _ => by simp at h
  | 0, [], x :: r, k, _, h => by simpa [spliceK] using h
  | 0, v :: vs, x :: r, k, h, h2 => spliceK_in 0 vs r _ (by simp at h ⊢; omega) (by simpa [Nat.add_comm] using h2)
  | n + 1, vs, x :: r, k, h, h2 => spliceK_in n vs r _ (by simp at h ⊢; omega) (by
      have e : n + 1 + vs.length = (n + vs.length) + 1 := by omega
      rw [e] at h2
      simpa using h2)
theorem setAtK_in {α : Type} : ∀ (n : Nat) (l : List α) (v : α) (k : List α → Prop), n < l.length → k (l.set n v) → setAtK n l v k
  | 0, [], v, k, h, _ => by simp at h
  | _ + 1, [], v, k, h, _ => by simp at h
  | 0, x :: r, v, k, _, h => h
  | n + 1, x :: r, v, k, h, h2 => setAtK_in n r v _ (by simpa using h) h2

theorem allPK_out : ∀ (cs : List AV) (k : List PV → Prop) (e : Prop), allPK cs k e → (∃ ps, cs = ps.map AV.p ∧ k ps) ∨ e
  | [], k, e, h => .inl ⟨[], rfl, h⟩
  | a :: r, k, e, h => by
    cases a with
    | p c =>
      rcases allPK_out r _ e h with ⟨ps, h1, h2⟩ | h
      · exact .inl ⟨c :: ps, by rw [h1]; rfl, h2⟩
      · exact .inr h
    | _ => exact .inr h
theorem upPK_eq : ∀ (cs : List PV) (k : List AV → Prop), upPK cs k = k (cs.map AV.p)
  | [], k => rfl
  | c :: r, k => by simp only [upPK, upPK_eq r, List.map_cons]
theorem scalarsK_out : ∀ (cs : List AV) (k : List AV → Prop), scalarsK cs k → (∀ a, a ∈ cs → a.scalar = true) ∧ k cs
  | [], k, h => ⟨fun a ha => (by cases ha), h⟩
  | a :: r, k, h => by
    simp only [scalarsK] at h
    split at h
    · rename_i hs
      obtain ⟨h1, h2⟩ := scalarsK_out r _ h
      refine ⟨fun b hb => ?_, h2⟩
      cases hb with
      | head => exact hs
      | tail _ hb => exact h1 b hb
    · exact h.elim
theorem repK_eq {α : Type} : ∀ (n : Nat) (x : α) (k : List α → Prop), repK n x k = k (List.replicate n x)
  | 0, x, k => rfl
  | n + 1, x, k => by simp only [repK, repK_eq n, List.replicate_succ]
theorem headK_out {α : Type} {l : List α} {k : α → Prop} (h : headK l k) : ∃ x r, l = x :: r ∧ k x := by
  cases l with
  | nil => exact h.elim
  | cons x r => exact ⟨x, r, rfl, h⟩

/-- What a value's cells are. -/
inductive Cells : AV → List AV → Prop
  | aggP (cs : List PV) : Cells (.p (.agg cs)) (cs.map AV.p)
  | agg (cs : List AV) : Cells (.agg cs) cs
  | one (a : AV) : a.scalar = true → Cells a [a]

theorem cellsK_out {v : AV} {k : List AV → Prop} (h : cellsK v k) : ∃ cs, Cells v cs ∧ (∀ a, a ∈ cs → a.scalar = true) ∧ k cs := by
  unfold cellsK at h
  split at h
  · rename_i cs
    rw [upPK_eq] at h
    obtain ⟨h1, h2⟩ := scalarsK_out _ _ h
    exact ⟨_, .aggP cs, h1, h2⟩
  · obtain ⟨h1, h2⟩ := scalarsK_out _ _ h
    exact ⟨_, .agg _, h1, h2⟩
  · obtain ⟨h1, h2⟩ := scalarsK_out _ _ h
    exact ⟨_, .one v (h1 v (by simp)), h1, h2⟩

/-- What the cells of an element are. -/
inductive CellsP : PV → List PV → Prop
  | agg (cs : List PV) : CellsP (.agg cs) cs
  | one (e : PV) : e.scalar = true → CellsP e [e]

theorem cellsPK_out {e : PV} {k : List PV → Prop} (h : cellsPK e k) : ∃ cs, CellsP e cs ∧ k cs := by
  unfold cellsPK at h
  split at h
  · exact ⟨_, .agg _, h⟩
  · exact h.elim
  · exact h.elim
  · rename_i h1 h2 h3
    exact ⟨_, .one e (by cases e <;> first | rfl | exact absurd rfl (h1 _) | exact absurd rfl h2 | exact absurd rfl (h3 _)), h⟩

/-- As one value: of cells that nobody writes, or not. -/
inductive Agg (cs : List AV) : AV → Prop
  | p (ps : List PV) : cs = ps.map AV.p → Agg cs (.p (.agg ps))
  | a : Agg cs (.agg cs)
inductive Tup (cs : List AV) : AV → Prop
  | p (ps : List PV) : cs = ps.map AV.p → Tup cs (.p (.tup ps))
  | a : Tup cs (.tup cs)
theorem mkAggK_out {cs : List AV} {k : AV → Prop} (h : mkAggK cs k) : ∃ a, Agg cs a ∧ k a := by
  rcases allPK_out _ _ _ h with ⟨ps, h1, h2⟩ | h
  · exact ⟨_, .p ps h1, h2⟩
  · exact ⟨_, .a, h⟩
theorem mkTupK_out {cs : List AV} {k : AV → Prop} (h : mkTupK cs k) : ∃ a, Tup cs a ∧ k a := by
  rcases allPK_out _ _ _ h with ⟨ps, h1, h2⟩ | h
  · exact ⟨_, .p ps h1, h2⟩
  · exact ⟨_, .a, h⟩

section va
variable {Γ : Ctx} {w : World}

/-- Cells that stand for one another. -/
def CellsV (Γ : Ctx) (w : World) (xs : Array Value) (cs : List AV) : Prop := xs.size = cs.length ∧ ∀ (j : Nat) (x : Value) (c : AV), xs[j]? = some x → cs[j]? = some c → VA Γ w x c

theorem VA.cells {v : Value} {a : AV} {cs : List AV} (h : VA Γ w v a) (hc : Cells a cs) : CellsV Γ w v.cells cs := by
  cases hc with
  | aggP ps =>
    cases h with
    | p v e h =>
      cases h with
      | agg xs ps h1 h2 h3 =>
        refine ⟨by simpa [Value.cells] using h1, fun j x c hx hc => ?_⟩
        simp only [Value.cells] at hx
        rw [List.getElem?_map] at hc
        obtain ⟨p, hp, rfl⟩ := Option.map_eq_some_iff.1 hc
        exact .p _ _ (h2 j x p hx hp)
  | agg cs =>
    cases h with
    | agg xs cs h1 h2 h3 => exact ⟨h1, h2⟩
  | one a hs =>
    rw [cells_of_oneCell (h.oneCell hs)]
    refine ⟨rfl, fun j x c hx hc => ?_⟩
    cases j with
    | zero =>
      simp at hx hc
      subst hx; subst hc
      exact h
    | succ j => simp at hx

theorem CellsV.one {xs : Array Value} {cs : List AV} (h : CellsV Γ w xs cs) (hs : ∀ a, a ∈ cs → a.scalar = true) (j : Nat) (x : Value) (hx : xs[j]? = some x) : x.oneCell' = true := by
  have hj : j < cs.length := by
    have := (Array.getElem?_eq_some_iff.1 hx).1
    rw [← h.1]; exact this
  exact (h.2 j x cs[j] hx (by simp [hj])).oneCell (hs _ (List.getElem_mem _))

theorem VA.of_agg {xs : Array Value} {cs : List AV} {a : AV} (h : CellsV Γ w xs cs) (h1 : ∀ (j : Nat) (x : Value), xs[j]? = some x → x.oneCell' = true) (ha : Agg cs a) : VA Γ w (.agg xs) a := by
  cases ha with
  | p ps hp =>
    subst hp
    refine .p _ _ (.agg xs ps (by simpa using h.1) (fun j x c hx hc => ?_) h1)
    have := h.2 j x (.p c) hx (by rw [List.getElem?_map, hc]; rfl)
    cases this with
    | p _ _ h => exact h
  | a => exact .agg xs cs h.1 h.2 h1

theorem VA.of_tup {xs : Array Value} {cs : List AV} {a : AV} (h : CellsV Γ w xs cs) (ha : Tup cs a) : VA Γ w (.tuple xs) a := by
  cases ha with
  | p ps hp =>
    subst hp
    refine .p _ _ (.tup xs ps (by simpa using h.1) (fun j x c hx hc => ?_))
    have := h.2 j x (.p c) hx (by rw [List.getElem?_map, hc]; rfl)
    cases this with
    | p _ _ h => exact h
  | a => exact .tup xs cs h.1 h.2

end va

end Go.Proofs.YtgdimfogijfmiaaDoor.AD

namespace Go.Proofs.YtgdimfogijfmiaaDoor.AD
set_option linter.unusedVariables false

theorem add_none (b off n : Nat) : (⟨b, off, none⟩ : Addr).add n = ⟨b, off + n, none⟩ := by
  unfold Addr.add; split <;> simp_all

/-- Elements, so many cells each, in a row of cells. -/
def RowOf (M : Nat → Prop) (w : World) (sz : Nat) (f : Nat → Option Value) (es : List PV) : Prop :=
  ∃ c : Nat → Value, (∀ (j : Nat) (e : PV), es[j]? = some e → (c j).cells.size = sz) ∧
    (∀ (j : Nat) (e : PV), es[j]? = some e → ∀ (i : Nat) (x : Value), (c j).cells[i]? = some x → x.oneCell' = true ∧ f (j * sz + i) = some x) ∧
    ∀ (j : Nat) (e : PV), es[j]? = some e → VP M w (c j) e

theorem idx_lt {j n i sz : Nat} (hj : j < n) (hi : i < sz) : j * sz + i < n * sz := by
  have : (j + 1) * sz ≤ n * sz := Nat.mul_le_mul_right _ hj
  rw [Nat.add_mul, Nat.one_mul] at this
  omega
theorem get_lt {α : Type} {l : List α} {j : Nat} {x : α} (h : l[j]? = some x) : j < l.length := (List.getElem?_eq_some_iff.1 h).1
theorem aget_lt {α : Type} {l : Array α} {j : Nat} {x : α} (h : l[j]? = some x) : j < l.size := (Array.getElem?_eq_some_iff.1 h).1

section row
variable {M : Nat → Prop} {w : World} {sz : Nat} {f g h : Nat → Option Value} {es ds : List PV}

theorem RowOf.nil : RowOf M w sz f [] := ⟨fun _ => default, fun j e h => by simp at h, fun j e h => by simp at h, fun j e h => by simp at h⟩

theorem RowOf.congr (hr : RowOf M w sz f es) (he : ∀ k, k < es.length * sz → g k = f k) : RowOf M w sz g es := by
  obtain ⟨c, h1, h2, h3⟩ := hr
  refine ⟨c, h1, fun j e hj i x hx => ⟨(h2 j e hj i x hx).1, ?_⟩, h3⟩
  rw [he _ (idx_lt (get_lt hj) (by rw [← h1 j e hj]; exact aget_lt hx))]
  exact (h2 j e hj i x hx).2

theorem RowOf.mono {M' : Nat → Prop} {w' : World} (hr : RowOf M w sz f es) (hs : Stays M w M' w') : RowOf M' w' sz f es := by
  obtain ⟨c, h1, h2, h3⟩ := hr
  exact ⟨c, h1, h2, fun j e hj => (h3 j e hj).mono hs⟩

theorem RowOf.take (hr : RowOf M w sz f es) (n : Nat) : RowOf M w sz f (es.take n) := by
  obtain ⟨c, h1, h2, h3⟩ := hr
  have key : ∀ (j : Nat) (e : PV), (es.take n)[j]? = some e → es[j]? = some e := fun j e hj => by
    rw [List.getElem?_take] at hj
    split at hj
    · exact hj
    · cases hj
  exact ⟨c, fun j e hj => h1 j e (key j e hj), fun j e hj => h2 j e (key j e hj), fun j e hj => h3 j e (key j e hj)⟩

theorem RowOf.drop (hr : RowOf M w sz f es) (n : Nat) (he : ∀ k, g k = f (n * sz + k)) : RowOf M w sz g (es.drop n) := by
  obtain ⟨c, h1, h2, h3⟩ := hr
  have key : ∀ (j : Nat) (e : PV), (es.drop n)[j]? = some e → es[n + j]? = some e := fun j e hj => by
    rwa [List.getElem?_drop] at hj
  refine ⟨fun j => c (n + j), fun j e hj => h1 _ e (key j e hj), fun j e hj i x hx => ?_, fun j e hj => h3 _ e (key j e hj)⟩
  have := h2 _ e (key j e hj) i x hx
  refine ⟨this.1, ?_⟩
  rw [he, ← this.2]
  congr 1
  rw [Nat.add_mul]; omega

theorem RowOf.append (hr : RowOf M w sz f es) (hd : RowOf M w sz g ds) (h1 : ∀ k, k < es.length * sz → h k = f k) (h2 : ∀ k, k < ds.length * sz → h (es.length * sz + k) = g k) : RowOf M w sz h (es ++ ds) := by
  obtain ⟨c, a1, a2, a3⟩ := hr
  obtain ⟨d, b1, b2, b3⟩ := hd
  have key : ∀ (j : Nat) (e : PV), (es ++ ds)[j]? = some e → (j < es.length ∧ es[j]? = some e) ∨ (es.length ≤ j ∧ ds[j - es.length]? = some e) := fun j e hj => by
    rcases Nat.lt_or_ge j es.length with hl | hl
    · rw [List.getElem?_append_left hl] at hj; exact .inl ⟨hl, hj⟩
    · rw [List.getElem?_append_right hl] at hj; exact .inr ⟨hl, hj⟩
  refine ⟨fun j => if j < es.length then c j else d (j - es.length), fun j e hj => ?_, fun j e hj i x hx => ?_, fun j e hj => ?_⟩
  · rcases key j e hj with ⟨hl, hj⟩ | ⟨hl, hj⟩
    · simp only [if_pos hl]; exact a1 j e hj
    · simp only [if_neg (Nat.not_lt.2 hl)]; exact b1 _ e hj
  · rcases key j e hj with ⟨hl, hj⟩ | ⟨hl, hj⟩
    · simp only [if_pos hl] at hx
      have := a2 j e hj i x hx
      refine ⟨this.1, ?_⟩
      rw [h1 _ (idx_lt hl (by rw [← a1 j e hj]; exact aget_lt hx))]
      exact this.2
    · simp only [if_neg (Nat.not_lt.2 hl)] at hx
      have := b2 _ e hj i x hx
      refine ⟨this.1, ?_⟩
      have e1 : j * sz + i = es.length * sz + ((j - es.length) * sz + i) := by
        have : j = es.length + (j - es.length) := by omega
        rw [show j * sz = (es.length + (j - es.length)) * sz by rw [← this], Nat.add_mul]; omega
      rw [e1, h2 _ (idx_lt (get_lt hj) (by rw [← b1 _ e hj]; exact aget_lt hx))]
      exact this.2
  · rcases key j e hj with ⟨hl, hj⟩ | ⟨hl, hj⟩
    · simp only [if_pos hl]; exact a3 j e hj
    · simp only [if_neg (Nat.not_lt.2 hl)]; exact b3 _ e hj

/-- All cells of the row are there, each that of one cell. -/
theorem RowOf.all (hr : RowOf M w sz f es) (k : Nat) (hk : k < es.length * sz) : ∃ x, f k = some x ∧ x.oneCell' = true := by
  obtain ⟨c, h1, h2, h3⟩ := hr
  have hsz : 0 < sz := by
    rcases Nat.eq_zero_or_pos sz with h | h
    · subst h; simp at hk
    · exact h
  have hj : k / sz < es.length := (Nat.div_lt_iff_lt_mul hsz).2 hk
  have he : es[k / sz]? = some es[k / sz] := List.getElem?_eq_getElem hj
  have hi : k % sz < (c (k / sz)).cells.size := by rw [h1 _ _ he]; exact Nat.mod_lt _ hsz
  have := h2 _ _ he (k % sz) _ (Array.getElem?_eq_getElem hi)
  have e : k / sz * sz + k % sz = k := by rw [Nat.mul_comm]; exact Nat.div_add_mod k sz
  rw [e] at this
  exact ⟨_, this.2, this.1⟩

/-- The cells of a row as a list. -/
theorem RowOf.list (hr : RowOf M w sz f es) : ∃ l : List Value, l.length = es.length * sz ∧ (∀ (j : Nat) (u : Value), l[j]? = some u → f j = some u) ∧ ∀ u, u ∈ l → u.oneCell' = true := by
  refine ⟨(List.range (es.length * sz)).map fun k => (f k).getD undef, by simp, fun j u hu => ?_, fun u hu => ?_⟩
  · rw [List.getElem?_map] at hu
    obtain ⟨k, hk, rfl⟩ := Option.map_eq_some_iff.1 hu
    have hk2 := (List.getElem?_eq_some_iff.1 hk)
    obtain ⟨hk3, hk4⟩ := hk2
    simp at hk3 hk4
    subst hk4
    obtain ⟨x, hx, _⟩ := hr.all j hk3
    rw [hx]; rfl
  · obtain ⟨k, hk, rfl⟩ := List.mem_map.1 hu
    obtain ⟨x, hx, h1⟩ := hr.all k (by simpa using hk)
    rw [hx]; exact h1

theorem RowOf.get (hr : RowOf M w sz f es) {j : Nat} {e : PV} (hj : es[j]? = some e) : ∃ c : Value, c.cells.size = sz ∧ (∀ (i : Nat) (x : Value), c.cells[i]? = some x → x.oneCell' = true ∧ f (j * sz + i) = some x) ∧ VP M w c e := by
  obtain ⟨c, h1, h2, h3⟩ := hr
  exact ⟨c j, h1 j e hj, h2 j e hj, h3 j e hj⟩
end row

/-- The cells of a slice. -/
def cellsAt (w : World) (A : Option Addr) (k : Nat) : Option Value :=
  match A with
  | some a => w.cell? (a.add k)
  | none => none

theorem VP.list_row {M : Nat → Prop} {w : World} {v : Value} {sz : Nat} {es : List PV} (h : VP M w v (.list sz es)) :
    ∃ A c, v = .slice A es.length c ∧ es.length ≤ c ∧ RowOf M w sz (cellsAt w A) es ∧ (A = none → c = 0) ∧ ∀ a, A = some a → es ≠ [] → a.spot = none ∧ ¬ M a.block ∧ a.block < w.heap.size := by
  cases h with
  | list0 sz A cap h => exact ⟨A, cap, rfl, Nat.zero_le _, RowOf.nil, h, fun a _ h => absurd rfl h⟩
  | list b off cap sz es c h1 h2 h3 h4 h5 h6 =>
    refine ⟨some ⟨b, off, none⟩, cap, rfl, h3, ⟨c, h4, fun j e he i x hx => ?_, h6⟩, fun h => (by cases h), fun a h _ => by cases h; exact ⟨rfl, h1, h2⟩⟩
    simp only [cellsAt, add_none]
    exact h5 j e he i x hx

theorem VP.of_row {M : Nat → Prop} {w : World} {sz b off cap : Nat} {es : List PV} (h : RowOf M w sz (cellsAt w (some ⟨b, off, none⟩)) es) (h1 : ¬ M b) (h2 : b < w.heap.size) (h3 : es.length ≤ cap) : VP M w (.slice (some ⟨b, off, none⟩) es.length cap) (.list sz es) := by
  obtain ⟨c, a1, a2, a3⟩ := h
  simp only [cellsAt, add_none] at a2
  exact .list b off cap sz es c h1 h2 h3 a1 a2 a3

theorem VP.lent_row {M : Nat → Prop} {w : World} {v : Value} {sz : Nat} {es sp : List PV} (h : VP M w v (.lent sz es sp)) :
    ∃ b off c, v = .slice (some ⟨b, off, none⟩) es.length c ∧ (es ++ sp).length ≤ c ∧ RowOf M w sz (cellsAt w (some ⟨b, off, none⟩)) (es ++ sp) ∧ ¬ M b ∧ b < w.heap.size := by
  cases h with
  | lent b off cap sz es sp c h1 h2 h3 h4 h5 h6 =>
    refine ⟨b, off, cap, rfl, h3, ⟨c, h4, fun j e he i x hx => ?_, h6⟩, h1, h2⟩
    simp only [cellsAt, add_none]
    exact h5 j e he i x hx

theorem VP.of_lent {M : Nat → Prop} {w : World} {sz b off cap : Nat} {es sp : List PV} (h : RowOf M w sz (cellsAt w (some ⟨b, off, none⟩)) (es ++ sp)) (h1 : ¬ M b) (h2 : b < w.heap.size) (h3 : (es ++ sp).length ≤ cap) : VP M w (.slice (some ⟨b, off, none⟩) es.length cap) (.lent sz es sp) := by
  obtain ⟨c, a1, a2, a3⟩ := h
  simp only [cellsAt, add_none] at a2
  exact .lent b off cap sz es sp c h1 h2 h3 a1 a2 a3

/-! ### objects -/

theorem Inv.at_l {μ : List MI} {w : World} {ba lo : List Ob} (h : Inv μ w ba lo) {k : Nat} {o : Ob} (ho : lo[k]? = some o) : ∃ m, Ctx.at ⟨blocks μ, ba.length, μ⟩ (.l k) = some m ∧ ObOk ⟨blocks μ, ba.length, μ⟩ w m o := h.locs k o ho
theorem Inv.at_b {μ : List MI} {w : World} {ba lo : List Ob} (h : Inv μ w ba lo) {i : Nat} {o : Ob} (ho : ba[i]? = some o) : ∃ m, Ctx.at ⟨blocks μ, ba.length, μ⟩ (.b i) = some m ∧ ObOk ⟨blocks μ, ba.length, μ.take ba.length⟩ w m o := by
  obtain ⟨m, h1, h2⟩ := h.bases i o ho
  exact ⟨m, by simp only [Ctx.at]; rw [if_pos (get_lt ho)]; exact h1, h2⟩

theorem take_get {α : Type} {l : List α} {n i : Nat} {x : α} (h : (l.take n)[i]? = some x) : l[i]? = some x := by
  rw [List.getElem?_take] at h
  split at h
  · exact h
  · cases h

theorem Ctx.at_take {M : Nat → Prop} {n : Nat} {μ : List MI} {r : Rf} {m : MI} (h : Ctx.at ⟨M, n, μ.take n⟩ r = some m) : Ctx.at ⟨M, n, μ⟩ r = some m := by
  cases r with
  | l k => exact take_get h
  | b id =>
    simp only [Ctx.at] at h ⊢
    split at h
    · rename_i hl; rw [if_pos hl]; exact take_get h
    · cases h

/-- What holds of the elder ones alone holds of all. -/
theorem VA.of_take {M : Nat → Prop} {n : Nat} {μ : List MI} {w : World} {v : Value} {a : AV} (h : VA ⟨M, n, μ.take n⟩ w v a) : VA ⟨M, n, μ⟩ w v a := by
  generalize hΓ : (⟨M, n, μ.take n⟩ : Ctx) = Γ at h
  induction h with
  | p v e h => subst hΓ; exact .p v e h
  | ref r off b h => subst hΓ; exact .ref r off b (Ctx.at_take h)
  | view0 r g sz n h => subst hΓ; exact .view0 r g sz n (Ctx.at_take h)
  | view r g sz n b len cap h hl hc => subst hΓ; exact .view r g sz n b len cap (Ctx.at_take h) hl hc
  | viewOld v r g sz len b g' n h hg h0 => subst hΓ; exact .viewOld v r g sz len b g' n (Ctx.at_take h) hg h0
  | viewGone v r g sz len h h0 => subst hΓ; exact .viewGone v r g sz len (Ctx.at_take h) h0
  | elt r g sz n b idx off h => subst hΓ; exact .elt r g sz n b idx off (Ctx.at_take h)
  | eltOld v r g sz idx off b g' n h hg h0 => subst hΓ; exact .eltOld v r g sz idx off b g' n (Ctx.at_take h) hg h0
  | eltGone v r g sz idx off h h0 => subst hΓ; exact .eltGone v r g sz idx off (Ctx.at_take h) h0
  | tail r g sz n b off len cap h hl hc => subst hΓ; exact .tail r g sz n b off len cap (Ctx.at_take h) hl hc
  | tail0 r g sz n off b A h => subst hΓ; exact .tail0 r g sz n off b A (Ctx.at_take h)
  | tailOld v r g sz off len b g' n h hg h0 => subst hΓ; exact .tailOld v r g sz off len b g' n (Ctx.at_take h) hg h0
  | tailGone v r g sz off len h h0 => subst hΓ; exact .tailGone v r g sz off len (Ctx.at_take h) h0
  | mapr r b h => subst hΓ; exact .mapr r b (Ctx.at_take h)
  | maprGone v r h h0 => subst hΓ; exact .maprGone v r (Ctx.at_take h) h0
  | clos f xs ys as bs h1 h2 _ _ ih1 ih2 => exact .clos f xs ys as bs h1 h2 ih1 ih2
  | agg xs cs h1 _ h3 ih => exact .agg xs cs h1 ih h3
  | tup xs cs h1 _ ih => exact .tup xs cs h1 ih

theorem ObOk.of_take {M : Nat → Prop} {n : Nat} {μ : List MI} {w : World} {m : MI} {o : Ob} (h : ObOk ⟨M, n, μ.take n⟩ w m o) : ObOk ⟨M, n, μ⟩ w m o := by
  cases h with
  | cells b xs t cs h1 h2 h3 => exact .cells b xs t cs h1 h2 fun j x c a b => ⟨(h3 j x c a b).1.of_take, (h3 j x c a b).2⟩
  | buf0 g sz n => exact .buf0 g sz n
  | buf b g n sz xs t es c h1 h2 h3 h4 => exact .buf b g n sz xs t es c h1 h2 h3 h4
  | map b clock xs es h1 h2 h3 h4 h5 => exact .map b clock xs es h1 h2 h3 h4 h5
  | mapA b clock xs ks vs h1 h2 h3 h4 h5 => exact .mapA b clock xs ks vs h1 h2 h3 h4 fun j x c a b => (h5 j x c a b).of_take
  | bufA b g n xs t es h1 h2 h3 h4 => exact .bufA b g n xs t es h1 h2 h3 fun j x c a b => ⟨(h4 j x c a b).1.of_take, (h4 j x c a b).2⟩
  | loop l r ks cs st p h1 h2 h0 h3 => exact .loop l r ks cs st p h1 h2 h0 fun j t c a b => (h3 j t c a b).of_take
  | gone => exact .gone

theorem blocks_of_at {M : Nat → Prop} {n : Nat} {μ : List MI} {r : Rf} {m : MI} {b : Nat} (h : Ctx.at ⟨M, n, μ⟩ r = some m) (hb : m.block? = some b) : blocks μ b := by
  cases r with
  | l k => exact ⟨_, m, h, hb⟩
  | b id =>
    simp only [Ctx.at] at h
    split at h
    · exact ⟨_, m, h, hb⟩
    · cases h

/-- An object that lies elsewhere, behind a world's step that leaves its block alone. -/
theorem ObOk.mono {M M' : Nat → Prop} {n : Nat} {μ μ' : List MI} {w w' : World} {m : MI} {o : Ob} (h : ObOk ⟨M, n, μ⟩ w m o) (hs : Stays M w M' w') (ha : Above μ μ') (hb : ∀ b, m.block? = some b → w'.heap[b]? = w.heap[b]?) : ObOk ⟨M', n, μ'⟩ w' m o := by
  cases h with
  | cells b xs t cs h1 h2 h3 => exact .cells b xs t cs ((hb b rfl).trans h1) h2 fun j x c a b => ⟨(h3 j x c a b).1.mono hs ha, (h3 j x c a b).2⟩
  | buf0 g sz n => exact .buf0 g sz n
  | buf b g n sz xs t es c h1 h2 h3 h4 => exact .buf b g n sz xs t es c ((hb b rfl).trans h1) h2 h3 fun j e he => ⟨(h4 j e he).1, (h4 j e he).2.1, (h4 j e he).2.2.mono hs⟩
  | map b clock xs es h1 h2 h3 h4 h5 => exact .map b clock xs es ((hb b rfl).trans h1) h2 (fun j x e a c => ⟨(h3 j x e a c).1.mono hs, (h3 j x e a c).2.mono hs⟩) h4 h5
  | mapA b clock xs ks vs h1 h2 h3 h4 h5 => exact .mapA b clock xs ks vs ((hb b rfl).trans h1) h2 h3 (fun j x e a c => (h4 j x e a c).mono hs) fun j x e a c => (h5 j x e a c).mono hs ha
  | bufA b g n xs t es h1 h2 h3 h4 => exact .bufA b g n xs t es ((hb b rfl).trans h1) h2 h3 fun j x c a b => ⟨(h4 j x c a b).1.mono hs ha, (h4 j x c a b).2⟩
  | loop l r ks cs st p h1 h2 h0 h3 => exact .loop l r ks cs st p ((hb l rfl).trans h1) h2 h0 fun j t c a b => (h3 j t c a b).mono hs ha
  | gone => exact .gone

theorem ObOk.block_lt {Γ : Ctx} {w : World} {m : MI} {o : Ob} (h : ObOk Γ w m o) {b : Nat} (hb : m.block? = some b) : b < w.heap.size := by
  cases h with
  | cells b' xs t cs h1 h2 h3 => cases hb; exact aget_lt h1
  | buf0 => cases hb
  | buf b' g n sz xs t es c h1 h2 h3 h4 => cases hb; exact aget_lt h1
  | map b' clock xs es h1 h2 h3 => cases hb; exact aget_lt h1
  | mapA b' clock xs ks vs h1 => cases hb; exact aget_lt h1
  | bufA b' g n xs t es h1 => cases hb; exact aget_lt h1
  | loop l r ks cs st p h1 => cases hb; exact aget_lt h1
  | gone => cases hb

theorem Inv.ob {μ : List MI} {w : World} {ba lo : List Ob} (h : Inv μ w ba lo) {i : Nat} {m : MI} (hm : μ[i]? = some m) : ∃ o Γ, ObOk Γ w m o ∧ ((i < ba.length ∧ ba[i]? = some o) ∨ (ba.length ≤ i ∧ lo[i - ba.length]? = some o)) := by
  have hi := get_lt hm
  rw [h.len] at hi
  rcases Nat.lt_or_ge i ba.length with hl | hl
  · obtain ⟨m', h1, h2⟩ := h.bases i ba[i] (List.getElem?_eq_getElem hl)
    rw [hm] at h1
    cases h1
    exact ⟨_, _, h2, .inl ⟨hl, List.getElem?_eq_getElem hl⟩⟩
  · have hk : i - ba.length < lo.length := by omega
    obtain ⟨m', h1, h2⟩ := h.locs (i - ba.length) lo[i - ba.length] (List.getElem?_eq_getElem hk)
    rw [show ba.length + (i - ba.length) = i by omega, hm] at h1
    cases h1
    exact ⟨_, _, h2, .inr ⟨hl, List.getElem?_eq_getElem hk⟩⟩

theorem Inv.block_lt {μ : List MI} {w : World} {ba lo : List Ob} (h : Inv μ w ba lo) {b : Nat} (hb : blocks μ b) : b < w.heap.size := by
  obtain ⟨i, m, hm, hmb⟩ := hb
  obtain ⟨o, Γ, ho, _⟩ := h.ob hm
  exact ho.block_lt hmb

/-- A world that differs only by draws and by blocks that nobody knows. -/
theorem Inv.grow {μ : List MI} {w w' : World} {ba lo : List Ob} (h : Inv μ w ba lo) (hle : Le μ w μ w') (hb : ∀ b, b < w.heap.size → w'.heap[b]? = w.heap[b]?) : Inv μ w' ba lo :=
  ⟨h.len, h.apart,
   fun i o ho => by
     obtain ⟨m, h1, h2⟩ := h.bases i o ho
     exact ⟨m, h1, h2.mono hle.stays (.refl _) fun b hmb => hb b (h2.block_lt hmb)⟩,
   fun i o ho => by
     obtain ⟨m, h1, h2⟩ := h.locs i o ho
     exact ⟨m, h1, h2.mono hle.stays (.refl _) fun b hmb => hb b (h2.block_lt hmb)⟩⟩

theorem le_alloc (μ : List MI) {w : World} {ba lo : List Ob} (h : Inv μ w ba lo) (o : Obj) : Le μ w μ (w.alloc o) :=
  ⟨rfl, rfl, rfl, .refl μ, by simp, fun b hb hm => ⟨hm, by rw [heap_alloc_old w o b hb]⟩⟩
theorem le_drew (μ : List MI) (w : World) : Le μ w μ w.drew := ⟨rfl, rfl, rfl, .refl μ, Nat.le_refl _, fun b hb hm => ⟨hm, rfl⟩⟩

/-- A new object. -/
theorem Inv.push {μ : List MI} {w w' : World} {ba lo : List Ob} (h : Inv μ w ba lo) (m : MI) (o : Ob) (hn : ∀ b, m.block? = some b → w.heap.size ≤ b)
    (hos : w'.os = w.os) (htp : w'.tape = w.tape) (hou : w'.output = w.output) (hsz : w.heap.size ≤ w'.heap.size) (hb : ∀ b, b < w.heap.size → w'.heap[b]? = w.heap[b]?) (ho : Le μ w (μ ++ [m]) w' → ObOk ⟨blocks (μ ++ [m]), ba.length, μ ++ [m]⟩ w' m o) :
    Inv (μ ++ [m]) w' ba (lo ++ [o]) ∧ Le μ w (μ ++ [m]) w' ∧ Ctx.at ⟨blocks (μ ++ [m]), ba.length, μ ++ [m]⟩ (.l lo.length) = some m := by
  have hblk : ∀ b, blocks (μ ++ [m]) b → blocks μ b ∨ m.block? = some b := by
    rintro b ⟨i, m', hm', hmb⟩
    rcases Nat.lt_or_ge i μ.length with hl | hl
    · rw [List.getElem?_append_left hl] at hm'; exact .inl ⟨i, m', hm', hmb⟩
    · rw [List.getElem?_append_right hl] at hm'
      have : i - μ.length = 0 := by have := get_lt hm'; simp at this; omega
      rw [this] at hm'
      simp at hm'
      subst hm'
      exact .inr hmb
  have habv : Above μ (μ ++ [m]) := fun i m' hm' => ⟨m', by rw [List.getElem?_append_left (get_lt hm')]; exact hm', .refl _⟩
  have hst : Stays (blocks μ) w (blocks (μ ++ [m])) w' := ⟨hsz, fun b hlt hmb => ⟨fun hc => by
    rcases hblk b hc with h1 | h1
    · exact hmb h1
    · have := hn b h1; omega, hb b hlt⟩⟩
  have hle : Le μ w (μ ++ [m]) w' := ⟨hos, htp, hou, habv, hst⟩
  have hlen : μ.length = ba.length + lo.length := h.len
  have hat : (μ ++ [m])[ba.length + lo.length]? = some m := by rw [← hlen]; simp
  refine ⟨⟨by simp [hlen]; omega, fun i j m1 m2 b h1 h2 hb1 hb2 => ?_, fun i o' ho' => ?_, fun k o' ho' => ?_⟩, hle, hat⟩
  · have split : ∀ (i : Nat) (m1 : MI), (μ ++ [m])[i]? = some m1 → μ[i]? = some m1 ∨ (i = μ.length ∧ m1 = m) := fun i m1 h1 => by
      rcases Nat.lt_or_ge i μ.length with hl | hl
      · rw [List.getElem?_append_left hl] at h1; exact .inl h1
      · rw [List.getElem?_append_right hl] at h1
        have : i - μ.length = 0 := by have := get_lt h1; simp at this; omega
        rw [this] at h1
        simp at h1
        exact .inr ⟨by omega, h1.symm⟩
    rcases split i m1 h1 with k1 | ⟨k1, e1⟩ <;> rcases split j m2 h2 with k2 | ⟨k2, e2⟩
    · exact h.apart i j m1 m2 b k1 k2 hb1 hb2
    · have := h.block_lt ⟨i, m1, k1, hb1⟩
      have := hn b (e2 ▸ hb2)
      omega
    · have := h.block_lt ⟨j, m2, k2, hb2⟩
      have := hn b (e1 ▸ hb1)
      omega
    · omega
  · obtain ⟨m', h1, h2⟩ := h.bases i o' ho'
    have hi := get_lt ho'
    refine ⟨m', by rw [List.getElem?_append_left (get_lt h1)]; exact h1, ?_⟩
    have e : (μ ++ [m]).take ba.length = μ.take ba.length := by rw [List.take_append_of_le_length (by omega)]
    rw [e]
    exact h2.mono hst (.refl _) fun b hmb => hb b (h2.block_lt hmb)
  · rcases Nat.lt_or_ge k lo.length with hl | hl
    · rw [List.getElem?_append_left hl] at ho'
      obtain ⟨m', h1, h2⟩ := h.locs k o' ho'
      exact ⟨m', by rw [List.getElem?_append_left (get_lt h1)]; exact h1, h2.mono hst habv fun b hmb => hb b (h2.block_lt hmb)⟩
    · rw [List.getElem?_append_right hl] at ho'
      have : k - lo.length = 0 := by have := get_lt ho'; simp at this; omega
      rw [this] at ho'
      simp at ho'
      subst ho'
      exact ⟨m, by rw [show k = lo.length by omega]; exact hat, ho hle⟩

end Go.Proofs.YtgdimfogijfmiaaDoor.AD

namespace Go.Proofs.YtgdimfogijfmiaaDoor.AD
set_option linter.unusedVariables false

theorem Inv.change {μ : List MI} {w w' : World} {ba lo ba' lo' : List Ob} (h : Inv μ w ba lo) {i : Nat} {m m' : MI} (hm : μ[i]? = some m) (hmm : MI.le m m')
    (hblk : ∀ b, m'.block? = some b → m.block? = some b ∨ w.heap.size ≤ b) (hos : w'.os = w.os) (htp : w'.tape = w.tape) (hou : w'.output = w.output) (hsz : w.heap.size ≤ w'.heap.size)
    (hb : ∀ b, b < w.heap.size → m.block? ≠ some b → w'.heap[b]? = w.heap[b]?) (hba : ba'.length = ba.length) (hlo : lo'.length = lo.length)
    (hsb : ∀ j, j ≠ i → ba'[j]? = ba[j]?) (hsl : ∀ k, ba.length + k ≠ i → lo'[k]? = lo[k]?)
    (hnb : Le μ w (μ.set i m') w' → ∀ o, i < ba.length → ba'[i]? = some o → ObOk ⟨blocks (μ.set i m'), ba.length, (μ.set i m').take ba.length⟩ w' m' o)
    (hnl : Le μ w (μ.set i m') w' → ∀ k o, i = ba.length + k → lo'[k]? = some o → ObOk ⟨blocks (μ.set i m'), ba.length, μ.set i m'⟩ w' m' o) :
    Inv (μ.set i m') w' ba' lo' ∧ Le μ w (μ.set i m') w' := by
  have hi := get_lt hm
  have get : ∀ (j : Nat) (m1 : MI), (μ.set i m')[j]? = some m1 → (j = i ∧ m1 = m') ∨ (j ≠ i ∧ μ[j]? = some m1) := fun j m1 h1 => by
    rw [List.getElem?_set] at h1
    by_cases e : i = j
    · subst e
      rw [if_pos rfl, if_pos hi] at h1
      exact .inl ⟨rfl, (Option.some.inj h1).symm⟩
    · rw [if_neg e] at h1
      exact .inr ⟨fun e2 => e e2.symm, h1⟩
  have habv : Above μ (μ.set i m') := fun j m1 h1 => by
    by_cases e : j = i
    · subst e
      rw [hm] at h1
      cases h1
      exact ⟨m', by rw [List.getElem?_set]; simp [hi], hmm⟩
    · exact ⟨m1, by rw [List.getElem?_set_ne (fun e2 => e e2.symm)]; exact h1, .refl _⟩
  have hst : Stays (blocks μ) w (blocks (μ.set i m')) w' := ⟨hsz, fun b hlt hmb => ⟨fun ⟨j, m1, h1, h2⟩ => by
    rcases get j m1 h1 with ⟨e1, e2⟩ | ⟨e1, e2⟩
    · subst e2
      rcases hblk b h2 with h3 | h3
      · exact hmb ⟨i, m, hm, h3⟩
      · omega
    · exact hmb ⟨j, m1, e2, h2⟩, hb b hlt fun h3 => hmb ⟨i, m, hm, h3⟩⟩⟩
  have hle : Le μ w (μ.set i m') w' := ⟨hos, htp, hou, habv, hst⟩
  have keep : ∀ {j : Nat} {m1 : MI}, j ≠ i → μ[j]? = some m1 → ∀ {Γ : Ctx} {o : Ob}, ObOk Γ w m1 o → ∀ b, m1.block? = some b → w'.heap[b]? = w.heap[b]? := fun {j m1} hj h1 {Γ o} ho b hb1 =>
    hb b (ho.block_lt hb1) fun h2 => hj (h.apart j i m1 m b h1 hm hb1 h2)
  refine ⟨⟨by rw [List.length_set, h.len, hba, hlo], fun a c m1 m2 b h1 h2 hb1 hb2 => ?_, fun j o ho => ?_, fun k o ho => ?_⟩, hle⟩
  · rcases get a m1 h1 with ⟨e1, e2⟩ | ⟨e1, e2⟩ <;> rcases get c m2 h2 with ⟨f1, f2⟩ | ⟨f1, f2⟩
    · omega
    · subst e2
      rcases hblk b hb1 with h3 | h3
      · exact absurd (h.apart i c m m2 b hm f2 h3 hb2) (fun e => f1 e.symm)
      · have := h.block_lt ⟨c, m2, f2, hb2⟩; omega
    · subst f2
      rcases hblk b hb2 with h3 | h3
      · exact absurd (h.apart a i m1 m b e2 hm hb1 h3) e1
      · have := h.block_lt ⟨a, m1, e2, hb1⟩; omega
    · exact h.apart a c m1 m2 b e2 f2 hb1 hb2
  · rw [hba]
    by_cases e : j = i
    · subst e
      exact ⟨m', by rw [List.getElem?_set]; simp [hi], hnb hle o (by rw [← hba]; exact get_lt ho) ho⟩
    · rw [hsb j e] at ho
      obtain ⟨m1, h1, h2⟩ := h.bases j o ho
      refine ⟨m1, by rw [List.getElem?_set_ne (fun e2 => e e2.symm)]; exact h1, h2.mono hst ?_ (keep e h1 h2)⟩
      intro a m2 h3
      rw [List.getElem?_take] at h3
      split at h3
      · rename_i hlt
        obtain ⟨m3, h4, h5⟩ := habv a m2 h3
        exact ⟨m3, by rw [List.getElem?_take, if_pos hlt]; exact h4, h5⟩
      · cases h3
  · rw [hba]
    by_cases e : ba.length + k = i
    · subst e
      exact ⟨m', by rw [List.getElem?_set]; simp [hi], hnl hle k o rfl ho⟩
    · rw [hsl k e] at ho
      obtain ⟨m1, h1, h2⟩ := h.locs k o ho
      exact ⟨m1, by rw [List.getElem?_set_ne (fun e2 => e e2.symm)]; exact h1, h2.mono hst habv (keep e h1 h2)⟩

/-- What an operation is to come to. -/
def Gives (P : Program) (o : Oper) (a : Act) (μ : List MI) (w : World) (ba : List Ob) (v : AV) (ba' lo' : List Ob) : Prop :=
  ∃ c w' μ', ((execOp a.eval o).run P w = .ok (.value c) w' ∨ ((execOp a.eval o).run P w = .ok .skip w' ∧ c = undef)) ∧ VA ⟨blocks μ', ba.length, μ'⟩ w' c v ∧ Inv μ' w' ba' lo' ∧ Le μ w μ' w' ∧ ba'.length = ba.length

/-- Its operands stand for what they are read as. -/
def Opnds (o : Oper) (a : Act) (μ : List MI) (w : World) (ba : List Ob) (fr : FR) : Prop :=
  ∀ (x : Operand) (r : Rv), x ∈ o.op.operands.toList → rv x = some r → VA ⟨blocks μ, ba.length, μ⟩ w (a.eval x) (evF r fr)

def Sound1 (P : Program) (o : Oper) (fr : FR) (ba lo : List Ob) (K : AV → List Ob → List Ob → Prop) : Prop :=
  ∃ v ba' lo', K v ba' lo' ∧ ∀ μ w a, Inv μ w ba lo → Opnds o a μ w ba fr → Gives P o a μ w ba v ba' lo'

/-- An operation that leaves the world alone. -/
theorem Sound1.quiet {P : Program} {o : Oper} {fr : FR} {ba lo : List Ob} {K : AV → List Ob → List Ob → Prop} (v : AV) (hk : K v ba lo)
    (h : ∀ μ w a, Inv μ w ba lo → Opnds o a μ w ba fr → ∃ c, (execOp a.eval o).run P w = .ok (.value c) w ∧ VA ⟨blocks μ, ba.length, μ⟩ w c v) : Sound1 P o fr ba lo K :=
  ⟨v, ba, lo, hk, fun μ w a hi hx => by
    obtain ⟨c, h1, h2⟩ := h μ w a hi hx
    exact ⟨c, w, μ, .inl h1, h2, hi, .refl _ _, rfl⟩⟩

theorem absP_sound {v : Value} {e : PV} (h : absP v = some e) (M : Nat → Prop) (w : World) : VP M w v e ∧ v.oneCell' = true := by
  unfold absP at h
  split at h <;> first
    | (cases h; exact ⟨by constructor, rfl⟩)
    | cases h
theorem absPs_sound : ∀ {l : List Value} {es : List PV}, absPs l = some es → ∀ (M : Nat → Prop) (w : World), l.length = es.length ∧ (∀ (j : Nat) (x : Value) (c : PV), l[j]? = some x → es[j]? = some c → VP M w x c) ∧ ∀ (j : Nat) (x : Value), l[j]? = some x → x.oneCell' = true
  | [], es, h, M, w => by
    cases h
    exact ⟨rfl, fun j x c h => by simp at h, fun j x h => by simp at h⟩
  | v :: r, es, h, M, w => by
    simp only [absPs] at h
    split at h
    · rename_i c cs h1 h2
      cases h
      obtain ⟨a1, a2⟩ := absP_sound h1 M w
      obtain ⟨b1, b2, b3⟩ := absPs_sound h2 M w
      refine ⟨by simp [b1], fun j x c hx hc => ?_, fun j x hx => ?_⟩
      · cases j with
        | zero => simp at hx hc; subst hx; subst hc; exact a1
        | succ j => exact b2 j x c (by simpa using hx) (by simpa using hc)
      · cases j with
        | zero => simp at hx; subst hx; exact a2
        | succ j => exact b3 j x (by simpa using hx)
    · cases h
theorem absZ_sound {v : Value} {e : PV} (h : absZ v = some e) (M : Nat → Prop) (w : World) : VP M w v e := by
  unfold absZ at h
  split at h
  · rename_i cs
    obtain ⟨es, h1, rfl⟩ := Option.map_eq_some_iff.1 h
    obtain ⟨a1, a2, a3⟩ := absPs_sound h1 M w
    exact .agg cs es (by simpa using a1) (fun j x c hx hc => a2 j x c (by simpa using hx) hc) (fun j x hx => a3 j x (by simpa using hx))
  · exact (absP_sound h M w).1

theorem rv_const {Γ : Ctx} {w : World} {a : Act} {x : Operand} {e : AV} (h : rv x = some (.v e)) : VA Γ w (a.eval x) e := by
  cases x with
  | tmp t => cases h
  | const v =>
    simp only [rv] at h
    obtain ⟨e', h1, h2⟩ := Option.map_eq_some_iff.1 h
    cases h2
    exact .p _ _ (absZ_sound h1 _ _)
  | func f => cases h; exact .p _ _ (.fn _)
  | global g => cases h

section ops
variable {P : Program} {o : Oper} {fr : FR} {ba lo : List Ob} {K : AV → List Ob → List Ob → Prop}

theorem s_mv {x : Operand} {r : Rv} (hm : x ∈ o.op.operands.toList) (ho : ∀ a w, (execOp (Act.eval a) o).run P w = .ok (.value (a.eval x)) w) (hr : rv x = some r) (h : K (evF r fr) ba lo) : Sound1 P o fr ba lo K :=
  .quiet _ h fun μ w a hi hx => ⟨a.eval x, ho a w, hx x r hm hr⟩

theorem VA.bool_inv {Γ : Ctx} {w : World} {v : Value} {b : Bool} (h : VA Γ w v (.p (.bool b))) : v = .bool b := by cases h with | p _ _ h => cases h; rfl
theorem VA.int_inv {Γ : Ctx} {w : World} {v : Value} {k : IntKind} {n : Int} (h : VA Γ w v (.p (.int k n))) : v = .int k n := by cases h with | p _ _ h => cases h; rfl
theorem VA.str_inv {Γ : Ctx} {w : World} {v : Value} {s : ByteArray} (h : VA Γ w v (.p (.str s))) : v = .string s := by cases h with | p _ _ h => cases h; rfl
theorem VA.pv {Γ : Ctx} {w : World} {v : Value} {e : PV} (h : VA Γ w v (.p e)) : VP Γ.M w v e := by cases h with | p _ _ h => exact h
theorem VA.bool' (Γ : Ctx) (w : World) (b : Bool) : VA Γ w (.bool b) (.p (.bool b)) := .p _ _ (.bool b)
theorem VA.int' (Γ : Ctx) (w : World) (k : IntKind) (n : Int) : VA Γ w (.int k n) (.p (.int k n)) := .p _ _ (.int k n)
theorem VA.str' (Γ : Ctx) (w : World) (s : ByteArray) : VA Γ w (.string s) (.p (.str s)) := .p _ _ (.str s)

theorem s_pick {d : Bool} {c x y : Operand} {rc rx ry : Rv} (ho : o.op = .pick c x y) (hc : rv c = some rc) (hx : rv x = some rx) (hy : rv y = some ry) (h : opV P d (.pick rc rx ry) fr ba lo K) : Sound1 P o fr ba lo K := by
  simp only [opV, evK_eq] at h
  split at h
  · rename_i e
    refine .quiet _ h fun μ w a hi hv => ⟨a.eval x, ?_, hv x rx (by simp [ho, Op.operands]) hx⟩
    have h1 := hv c rc (by simp [ho, Op.operands]) hc
    rw [e] at h1
    simp [execOp, ho, h1.bool_inv, asBool]
  · rename_i e
    refine .quiet _ h fun μ w a hi hv => ⟨a.eval y, ?_, hv y ry (by simp [ho, Op.operands]) hy⟩
    have h1 := hv c rc (by simp [ho, Op.operands]) hc
    rw [e] at h1
    simp [execOp, ho, h1.bool_inv, asBool]
  · exact h.elim

end ops

end Go.Proofs.YtgdimfogijfmiaaDoor.AD

namespace Go.Proofs.YtgdimfogijfmiaaDoor.AD
set_option linter.unusedVariables false

section ops
variable {P : Program} {o : Oper} {fr : FR} {ba lo : List Ob} {K : AV → List Ob → List Ob → Prop} {d : Bool}

/-- The operands of an operation of one, two operands. -/
theorem Opnds.get {a : Act} {μ : List MI} {w : World} (h : Opnds o a μ w ba fr) {x : Operand} {r : Rv} (hm : x ∈ o.op.operands.toList) (hr : rv x = some r) {e : AV} (he : evF r fr = e) : VA ⟨blocks μ, ba.length, μ⟩ w (a.eval x) e := he ▸ h x r hm hr

theorem kindK_out {j k : IntKind} {K : Prop} (h : kindK j k K) : j = k ∧ K := by
  cases j <;> cases k <;> first | exact ⟨rfl, h⟩ | exact h.elim

theorem binI_out {op : BinOp} {k : IntKind} {a b : Int} {K : AV → Prop} (t : TypeId) (P : Program) (h : binI op k a b K) : ∃ v c, K v ∧ (∀ (Γ : Ctx) w, VA Γ w c v) ∧ ∀ w, (binOp op t (.int k a) (.int k b)).run P w = .ok c w := by
  cases op <;> simp only [binI] at h
  case add => exact ⟨_, _, h, fun Γ w => VA.int' Γ w _ _, fun w => by simp [binOp, Op.intArith]⟩
  case sub => exact ⟨_, _, h, fun Γ w => VA.int' Γ w _ _, fun w => by simp [binOp, Op.intArith]⟩
  case mul => exact ⟨_, _, h, fun Γ w => VA.int' Γ w _ _, fun w => by simp [binOp, Op.intArith]⟩
  case quo => exact ⟨_, _, h.2, fun Γ w => VA.int' Γ w _ _, fun w => by simp [binOp, Op.intDiv, h.1]⟩
  case rem => exact ⟨_, _, h.2, fun Γ w => VA.int' Γ w _ _, fun w => by simp [binOp, Op.intDiv, h.1]⟩
  case and => exact ⟨_, _, h, fun Γ w => VA.int' Γ w _ _, fun w => by simp [binOp, Op.intBits]⟩
  case or => exact ⟨_, _, h, fun Γ w => VA.int' Γ w _ _, fun w => by simp [binOp, Op.intBits]⟩
  case xor => exact ⟨_, _, h, fun Γ w => VA.int' Γ w _ _, fun w => by simp [binOp, Op.intBits]⟩
  case andNot => exact ⟨_, _, h, fun Γ w => VA.int' Γ w _ _, fun w => by simp [binOp, Op.intBits]⟩
  case eql => exact ⟨_, _, h, fun Γ w => VA.bool' Γ w _, fun w => by simp [binOp, Op.intCmp]⟩
  case neq => exact ⟨_, _, h, fun Γ w => VA.bool' Γ w _, fun w => by simp [binOp, Op.intCmp]⟩
  case lss => exact ⟨_, _, h, fun Γ w => VA.bool' Γ w _, fun w => by simp [binOp, Op.intCmp]⟩
  case leq => exact ⟨_, _, h, fun Γ w => VA.bool' Γ w _, fun w => by simp [binOp, Op.intCmp]⟩
  case gtr => exact ⟨_, _, h, fun Γ w => VA.bool' Γ w _, fun w => by simp [binOp, Op.intCmp]⟩
  case geq => exact ⟨_, _, h, fun Γ w => VA.bool' Γ w _, fun w => by simp [binOp, Op.intCmp]⟩
  case shl => exact ⟨_, _, h.2, fun Γ w => VA.int' Γ w _ _, fun w => by simp [binOp, Op.shift, Int.not_lt.2 h.1]⟩
  case shr => exact ⟨_, _, h.2, fun Γ w => VA.int' Γ w _ _, fun w => by simp [binOp, Op.shift, Int.not_lt.2 h.1]⟩

theorem binSh_out {op : BinOp} {k j : IntKind} {a b : Int} {K : AV → Prop} (t : TypeId) (P : Program) (hs : isShift op = true) (h : binI op k a b K) : ∃ v c, K v ∧ (∀ (Γ : Ctx) w, VA Γ w c v) ∧ ∀ w, (binOp op t (.int k a) (.int j b)).run P w = .ok c w := by
  cases op <;> simp only [isShift, Bool.false_eq_true] at hs <;> simp only [binI] at h
  case shl => exact ⟨_, _, h.2, fun Γ w => VA.int' Γ w _ _, fun w => by simp [binOp, Op.shift, Int.not_lt.2 h.1]⟩
  case shr => exact ⟨_, _, h.2, fun Γ w => VA.int' Γ w _ _, fun w => by simp [binOp, Op.shift, Int.not_lt.2 h.1]⟩

theorem binS_out {op : BinOp} {a b : ByteArray} {K : AV → Prop} (t : TypeId) (P : Program) (h : binS op a b K) : ∃ v c, K v ∧ (∀ (Γ : Ctx) w, VA Γ w c v) ∧ ∀ w, (binOp op t (.string a) (.string b)).run P w = .ok c w := by
  cases op <;> simp only [binS] at h
  case add => exact ⟨_, _, h.2, fun Γ w => VA.str' Γ w _, fun w => by
    have : ¬ (((a.size + b.size : Nat) : Int) > IntKind.i64.max) := by have := h.1; show ¬ (_ > (9223372036854775807 : Int)); omega
    simp only [binOp, Op.stringOp, if_neg this]; rfl⟩
  case eql => exact ⟨_, _, h, fun Γ w => VA.bool' Γ w _, fun w => by simp [binOp, Op.stringOp]⟩
  case neq => exact ⟨_, _, h, fun Γ w => VA.bool' Γ w _, fun w => by simp [binOp, Op.stringOp]⟩
  case lss => exact ⟨_, _, h, fun Γ w => VA.bool' Γ w _, fun w => by simp [binOp, Op.stringOp, strLt]⟩
  case leq => exact ⟨_, _, h, fun Γ w => VA.bool' Γ w _, fun w => by simp [binOp, Op.stringOp, strLt]⟩
  case gtr => exact ⟨_, _, h, fun Γ w => VA.bool' Γ w _, fun w => by simp [binOp, Op.stringOp, strLt]⟩
  case geq => exact ⟨_, _, h, fun Γ w => VA.bool' Γ w _, fun w => by simp [binOp, Op.stringOp, strLt]⟩
  all_goals exact h.elim

theorem eqGuard_scalar (op : BinOp) (t : TypeId) (x y : Operand) (a b : Value) (w : World) (h : match a, b with | .int _ _, .int _ _ => True | .string _, .string _ => True | .bool _, .bool _ => True | _, _ => False) : (eqGuard op t x y a b).run P w = .ok () w := by
  unfold eqGuard
  cases a <;> cases b <;> first | exact h.elim | (cases op <;> rfl)

theorem s_bin {op : BinOp} {t yt : TypeId} {x y : Operand} {rx ry : Rv} (ho : o.op = .binOp op t x y yt) (hx : rv x = some rx) (hy : rv y = some ry) (h : opV P d (.bin op rx ry) fr ba lo K) : Sound1 P o fr ba lo K := by
  simp only [opV, evK_eq] at h
  have run : ∀ (a : Act) (w : World) (u v c : Value), a.eval x = u → a.eval y = v → (match u, v with | .int _ _, .int _ _ => True | .string _, .string _ => True | .bool _, .bool _ => True | _, _ => False) →
      (binOp op t u v).run P w = .ok c w → (execOp a.eval o).run P w = .ok (.value c) w := fun a w u v c h1 h2 h3 h4 => by
    simp only [execOp, ho, Sem.run_bind, h1, h2, eqGuard_scalar op t x y u v w h3, Result.andThen_ok, h4]
    rfl
  unfold binK at h
  split at h
  · rename_i k a j b e1 e2
    cases hs : isShift op with
    | true =>
      rw [hs] at h
      simp only [cond_true] at h
      obtain ⟨v, c, hk, hv, hr⟩ := binSh_out (j := j) t P hs h
      refine .quiet _ hk fun μ w act hi hp => ⟨c, ?_, hv _ _⟩
      exact run act w _ _ c (hp.get (by simp [ho, Op.operands]) hx e1).int_inv (hp.get (by simp [ho, Op.operands]) hy e2).int_inv trivial (hr w)
    | false =>
      rw [hs] at h
      simp only [cond_false] at h
      obtain ⟨rfl, h5⟩ := kindK_out h
      obtain ⟨v, c, hk, hv, hr⟩ := binI_out t P h5
      refine .quiet _ hk fun μ w act hi hp => ⟨c, ?_, hv _ _⟩
      exact run act w _ _ c (hp.get (by simp [ho, Op.operands]) hx e1).int_inv (hp.get (by simp [ho, Op.operands]) hy e2).int_inv trivial (hr w)
  · rename_i a b e1 e2
    obtain ⟨v, c, hk, hv, hr⟩ := binS_out t P h
    refine .quiet _ hk fun μ w act hi hp => ⟨c, ?_, hv _ _⟩
    exact run act w _ _ c (hp.get (by simp [ho, Op.operands]) hx e1).str_inv (hp.get (by simp [ho, Op.operands]) hy e2).str_inv trivial (hr w)
  · exact h.elim

theorem s_eqb {neg : Bool} {op : BinOp} {t yt : TypeId} {x y : Operand} {rx ry : Rv} (ho : o.op = .binOp op t x y yt) (hop : op = if neg then .neq else .eql) (ht : P.underlying t = some .bool) (hx : rv x = some rx) (hy : rv y = some ry) (h : opV P d (.eqb neg rx ry) fr ba lo K) : Sound1 P o fr ba lo K := by
  simp only [opV, evK_eq] at h
  split at h
  · rename_i a b e1 e2
    refine .quiet _ h fun μ w act hi hp => ⟨_, ?_, VA.bool' _ _ _⟩
    have h1 := (hp.get (by simp [ho, Op.operands]) hx e1).bool_inv
    have h2 := (hp.get (by simp [ho, Op.operands]) hy e2).bool_inv
    simp only [execOp, ho, Sem.run_bind, h1, h2]
    rw [eqGuard_scalar op t x y _ _ w trivial]
    cases neg
    · simp only [Bool.false_eq_true, if_false] at hop; subst hop
      simp only [Result.andThen_ok, run_eql_bool w t a b ht]; rfl
    · simp only [if_true] at hop; subst hop
      simp only [Result.andThen_ok, run_neq_bool w t a b ht]; rfl
  · exact h.elim

theorem VA.nilf_inv {Γ : Ctx} {w : World} {v : Value} (h : VA Γ w v (.p .nilf)) : v = .nilFunc := by cases h with | p _ _ h => cases h; rfl
theorem VA.fn_inv {Γ : Ctx} {w : World} {v : Value} {f : Fn} (h : VA Γ w v (.p (.fn f))) : v = .func f #[] #[] := by cases h with | p _ _ h => cases h; rfl
theorem VA.clos_inv {Γ : Ctx} {w : World} {v : Value} {f : Fn} {as bs : List AV} (h : VA Γ w v (.clos f as bs)) : ∃ us vs, v = .func f us vs := by cases h with | clos _ us vs => exact ⟨us, vs, rfl⟩
def isFn (q : Bool) : Value → Prop
  | .nilFunc => q = true
  | .func _ _ _ => q = false
  | _ => False
theorem run_equalIn_func {P : Program} {t : TypeId} {a : _} {b : _} {c : _} (ht : P.underlying t = some (.func a b c)) (w : World) (d : Nat) (x : Value) (q : Bool) (hx : isFn q x) : (Op.equalIn (d + 1) t x .nilFunc).run P w = .ok q w := by
  cases x <;> first | exact hx.elim | (have hx : q = _ := hx; subst hx; simp [Op.equalIn, run_underlying ht])
theorem run_equal_func {P : Program} {t : TypeId} {a : _} {b : _} {c : _} (ht : P.underlying t = some (.func a b c)) (w : World) (x : Value) (q : Bool) (hx : isFn q x) : (Op.equal t x .nilFunc).run P w = .ok q w := run_equalIn_func ht w 9999 x q hx
theorem run_eql_func {P : Program} {t : TypeId} {a : _} {b : _} {c : _} (ht : P.underlying t = some (.func a b c)) (w : World) (neg : Bool) (x : Value) (q : Bool) (hx : isFn q x) :
    (Go.binOp (if neg then .neq else .eql) t x .nilFunc).run P w = .ok (.bool (match neg with | true => !q | false => q)) w := by
  have h := run_equal_func ht w x q hx
  cases x <;> first | exact hx.elim | (cases neg <;> simp [Go.binOp, h])
theorem s_isNil {neg : Bool} {op : BinOp} {t yt : TypeId} {x y : Operand} {rx : Rv} {a b c : _} (ho : o.op = .binOp op t x y yt) (hop : op = if neg then .neq else .eql) (ht : P.underlying t = some (.func a b c)) (hx : rv x = some rx) (hy : rv y = some (.v (.p .nilf))) (h : opV P d (.isNil neg rx) fr ba lo K) : Sound1 P o fr ba lo K := by
  simp only [opV, evK_eq] at h
  have guard : ∀ (u : Value) (w : World), (match u with | .nilFunc => True | .func _ _ _ => True | _ => False) → (eqGuard op t x y u .nilFunc).run P w = .ok () w := by
    intro u w hu
    unfold eqGuard
    cases u <;> first | exact hu.elim | (cases op <;> rfl)
  split at h
  · rename_i e1
    refine .quiet _ h fun μ w act hi hp => ⟨_, ?_, VA.bool' _ _ _⟩
    have h1 := (hp.get (by simp [ho, Op.operands]) hx e1).nilf_inv
    have h2 := (hp.get (by simp [ho, Op.operands]) hy rfl).nilf_inv
    simp only [execOp, ho, Sem.run_bind, h1, h2]
    rw [guard _ w trivial]
    simp only [Result.andThen_ok, hop, run_eql_func ht w neg .nilFunc true rfl]
    cases neg <;> rfl
  · rename_i f e1
    refine .quiet _ h fun μ w act hi hp => ⟨_, ?_, VA.bool' _ _ _⟩
    have h1 := (hp.get (by simp [ho, Op.operands]) hx e1).fn_inv
    have h2 := (hp.get (by simp [ho, Op.operands]) hy rfl).nilf_inv
    simp only [execOp, ho, Sem.run_bind, h1, h2]
    rw [guard _ w trivial]
    simp only [Result.andThen_ok, hop, run_eql_func ht w neg (.func f #[] #[]) false rfl]
    cases neg <;> rfl
  · rename_i f as bs e1
    refine .quiet _ h fun μ w act hi hp => ⟨_, ?_, VA.bool' _ _ _⟩
    obtain ⟨us, vs, h1⟩ := (hp.get (by simp [ho, Op.operands]) hx e1).clos_inv
    have h2 := (hp.get (by simp [ho, Op.operands]) hy rfl).nilf_inv
    simp only [execOp, ho, Sem.run_bind, h1, h2]
    rw [guard _ w trivial]
    simp only [Result.andThen_ok, hop, run_eql_func ht w neg (.func f us vs) false rfl]
    cases neg <;> rfl
  · exact h.elim

theorem s_not {t : TypeId} {x : Operand} {rx : Rv} (ho : o.op = .unOp .not t x) (hx : rv x = some rx) (h : opV P d (.not rx) fr ba lo K) : Sound1 P o fr ba lo K := by
  simp only [opV, evK_eq] at h
  split at h
  · rename_i b e1
    refine .quiet _ h fun μ w act hi hp => ⟨_, ?_, VA.bool' _ _ _⟩
    have h1 := (hp.get (by simp [ho, Op.operands]) hx e1).bool_inv
    simp [execOp, ho, h1, Op.unary]
  · exact h.elim

theorem s_neg {t : TypeId} {x : Operand} {rx : Rv} (ho : o.op = .unOp .neg t x) (hx : rv x = some rx) (h : opV P d (.neg rx) fr ba lo K) : Sound1 P o fr ba lo K := by
  simp only [opV, evK_eq] at h
  split at h
  · rename_i k b e1
    refine .quiet _ h fun μ w act hi hp => ⟨_, ?_, VA.int' _ _ _ _⟩
    have h1 := (hp.get (by simp [ho, Op.operands]) hx e1).int_inv
    simp [execOp, ho, h1, Op.unary, Op.intArith]
  · exact h.elim

theorem s_conv {s t : TypeId} {k : IntKind} {x : Operand} {rx : Rv} (ho : o.op = .convert s t x) {j : IntKind} (hs : P.underlying s = some (.int j)) (ht : P.underlying t = some (.int k)) (hx : rv x = some rx) (h : opV P d (.conv k rx) fr ba lo K) : Sound1 P o fr ba lo K := by
  simp only [opV, evK_eq] at h
  split at h
  · rename_i _ b e1
    refine .quiet _ h fun μ w act hi hp => ⟨_, ?_, VA.int' _ _ _ _⟩
    have h1 := (hp.get (by simp [ho, Op.operands]) hx e1).int_inv
    simp [execOp, ho, h1, convert, run_underlying hs, run_underlying ht, Conv.intToInt]
  · exact h.elim

theorem s_mkI {t : TypeId} {fs : _} {x : Operand} {rx : Rv} (ho : o.op = .makeInterface t x) (ht : P.underlying t = some (.struct fs)) (hx : rv x = some rx) (h : opV P d (.mkI t rx) fr ba lo K) : Sound1 P o fr ba lo K := by
  simp only [opV, evK_eq] at h
  split at h
  · rename_i v e1
    refine .quiet _ h fun μ w act hi hp => ⟨_, ?_, .p _ _ (.iface t _ _ (hp.get (by simp [ho, Op.operands]) hx e1).pv)⟩
    simp [execOp, ho, Instr.makeInterface, run_underlying ht]
  · exact h.elim

theorem VA.nili_inv {Γ : Ctx} {w : World} {v : Value} (h : VA Γ w v (.p .nili)) : v = .nilIface := by cases h with | p _ _ h => cases h; rfl
theorem VA.iface_inv {Γ : Ctx} {w : World} {v : Value} {t : TypeId} {x : PV} (h : VA Γ w v (.p (.iface t x))) : ∃ u, v = .iface t u ∧ VP Γ.M w u x := by
  cases h with | p _ _ h => cases h with | iface t u _ h => exact ⟨u, rfl, h⟩
theorem run_equalIn_iface {P : Program} {t : TypeId} {a : _} (ht : P.underlying t = some (.interface a)) (w : World) (d : Nat) (x : Value) (q : Bool) (hx : match x with | .nilIface => q = true | .iface _ _ => q = false | _ => False) : (Op.equalIn (d + 1) t x .nilIface).run P w = .ok q w := by
  cases x <;> first | exact hx.elim | (have hx : q = _ := hx; subst hx; simp [Op.equalIn, run_underlying ht])
theorem run_eql_iface {P : Program} {t : TypeId} {a : _} (ht : P.underlying t = some (.interface a)) (w : World) (neg : Bool) (x : Value) (q : Bool) (hx : match x with | .nilIface => q = true | .iface _ _ => q = false | _ => False) :
    (Go.binOp (if neg then .neq else .eql) t x .nilIface).run P w = .ok (.bool (match neg with | true => !q | false => q)) w := by
  have h : (Op.equal t x .nilIface).run P w = .ok q w := run_equalIn_iface ht w 9999 x q hx
  cases x <;> first | exact hx.elim | (cases neg <;> simp [Go.binOp, h])
theorem rv_nili {y : Operand} (h : rv y = some (.v (.p .nili))) : ∃ c, y = .const c := by
  cases y with
  | const c => exact ⟨c, rfl⟩
  | tmp t => cases h
  | _ => cases h
theorem s_isNilI {neg : Bool} {op : BinOp} {t yt : TypeId} {x y : Operand} {rx : Rv} {a : _} (ho : o.op = .binOp op t x y yt) (hop : op = if neg then .neq else .eql) (ht : P.underlying t = some (.interface a)) (hx : rv x = some rx) (hy : rv y = some (.v (.p .nili))) (h : opV P d (.isNilI neg rx) fr ba lo K) : Sound1 P o fr ba lo K := by
  simp only [opV, evK_eq] at h
  obtain ⟨cy, hcy⟩ := rv_nili hy
  have guard : ∀ (u : Value) (w : World), (match u with | .nilIface => True | .iface _ _ => True | _ => False) → (eqGuard op t x y u .nilIface).run P w = .ok () w := by
    intro u w hu
    subst hcy
    unfold eqGuard
    cases u <;> first | exact hu.elim | (cases op <;> simp) | (cases op <;> rfl)
  split at h
  · rename_i e1
    refine .quiet _ h fun μ w act hi hp => ⟨_, ?_, VA.bool' _ _ _⟩
    have h1 := (hp.get (by simp [ho, Op.operands]) hx e1).nili_inv
    have h2 := (hp.get (by simp [ho, Op.operands]) hy rfl).nili_inv
    simp only [execOp, ho, Sem.run_bind, h1, h2]
    rw [guard _ w trivial]
    simp only [Result.andThen_ok, hop, run_eql_iface ht w neg .nilIface true rfl]
    cases neg <;> rfl
  · rename_i u v e1
    refine .quiet _ h fun μ w act hi hp => ⟨_, ?_, VA.bool' _ _ _⟩
    obtain ⟨z, h1, _⟩ := (hp.get (by simp [ho, Op.operands]) hx e1).iface_inv
    have h2 := (hp.get (by simp [ho, Op.operands]) hy rfl).nili_inv
    simp only [execOp, ho, Sem.run_bind, h1, h2]
    rw [guard _ w trivial]
    simp only [Result.andThen_ok, hop, run_eql_iface ht w neg (.iface u z) false rfl]
    cases neg <;> rfl
  · exact h.elim
theorem s_tas {s t : TypeId} {fs : _} {x : Operand} {rx : Rv} (ho : o.op = .typeAssert x s t true) (ht : P.underlying t = some (.struct fs)) (hx : rv x = some rx) (h : opV P d (.tas t rx) fr ba lo K) : Sound1 P o fr ba lo K := by
  simp only [opV, evK_eq] at h
  split at h
  · rename_i u v e1
    obtain ⟨rfl, h⟩ := h
    refine .quiet _ h fun μ w act hi hp => ?_
    obtain ⟨z, h1, h2⟩ := (hp.get (by simp [ho, Op.operands]) hx e1).iface_inv
    refine ⟨.tuple #[z, .bool true], ?_, .p _ _ (.tup _ _ rfl fun j y e hy he => ?_)⟩
    · simp [execOp, ho, h1, Instr.typeAssert, run_underlying ht]
    · match j, hy, he with
      | 0, hy, he => simp at hy he; subst hy; subst he; exact h2
      | 1, hy, he => simp at hy he; subst hy; subst he; exact .bool true
      | j + 2, hy, he => simp at hy
  · exact h.elim

theorem s_mvS {s t : TypeId} {x : Operand} {rx : Rv} (ho : o.op = .convert s t x) (hs : P.underlying s = some .string) (ht : P.underlying t = some .string) (hx : rv x = some rx) (h : opV P d (.mvS rx) fr ba lo K) : Sound1 P o fr ba lo K := by
  simp only [opV, evK_eq] at h
  split at h
  · rename_i b e1
    refine .quiet _ h fun μ w act hi hp => ⟨_, ?_, VA.str' _ _ _⟩
    have h1 := (hp.get (by simp [ho, Op.operands]) hx e1).str_inv
    simp [execOp, ho, h1, convert, run_underlying hs, run_underlying ht]
  · exact h.elim

/-! #### values that nobody writes -/

/-- A pointer to cells. -/
theorem VP.ptr_inv {M : Nat → Prop} {w : World} {v : Value} {cs : List PV} (h : VP M w v (.ptr cs)) : ∃ (b off : Nat) (c : Nat → Value), v = .pointer (some ⟨b, off, none⟩) ∧ ¬ M b ∧ b < w.heap.size ∧
    (∀ (j : Nat) (e : PV), cs[j]? = some e → (c j).oneCell' = true ∧ w.cell? ⟨b, off + j, none⟩ = some (c j)) ∧ ∀ (j : Nat) (e : PV), cs[j]? = some e → VP M w (c j) e := by
  cases h with
  | ptr b off cs c h1 h2 h3 h4 => exact ⟨b, off, c, rfl, h1, h2, h3, h4⟩

theorem VP.ptr_drop {M : Nat → Prop} {w : World} {b off : Nat} {cs : List PV} (h : VP M w (.pointer (some ⟨b, off, none⟩)) (.ptr cs)) (n : Nat) : VP M w (.pointer (some ⟨b, off + n, none⟩)) (.ptr (cs.drop n)) := by
  obtain ⟨b', off', c, h1, h2, h3, h4, h5⟩ := h.ptr_inv
  cases h1
  refine .ptr b (off + n) _ (fun j => c (n + j)) h2 h3 (fun j e he => ?_) fun j e he => ?_
  · rw [List.getElem?_drop] at he
    have := h4 _ e he
    rw [Nat.add_assoc]; exact this
  · rw [List.getElem?_drop] at he
    exact h5 _ e he

/-- Reading a row of cells, as one value or as a struct's. -/
theorem run_loadVar_some {w : World} {t : TypeId} {n b off : Nat} {cs : List Value} (h1 : isAggT P t = some true) (h2 : (P.info? t).map (·.size) = some n) (hl : cs.length = n) (hc : ∀ (j : Nat) (v : Value), cs[j]? = some v → w.cell? ⟨b, off + j, none⟩ = some v) :
    (loadVar t ⟨b, off, none⟩).run P w = .ok (.agg cs.toArray) w := by
  obtain ⟨i, hi, hn⟩ := Option.map_eq_some_iff.1 h2
  have hrun := run_loadCells_list (P := P) w ⟨b, off, none⟩ cs (fun j v hj => by rw [add_none]; exact hc j v hj)
  rw [hl] at hrun
  unfold isAggT at h1
  split at h1
  · rename_i hu
    simp [loadVar, isAgg, run_underlying hu, sizeOf, typeInfo, hi, hn, hrun]
  · rename_i hu
    simp [loadVar, isAgg, run_underlying hu, sizeOf, typeInfo, hi, hn, hrun]
  · cases h1
  · cases h1

theorem run_loadVar_none {w : World} {t : TypeId} {b off : Nat} {v : Value} (h1 : isAggT P t = some false) (hc : w.cell? ⟨b, off, none⟩ = some v) : (loadVar t ⟨b, off, none⟩).run P w = .ok v w := by
  unfold isAggT at h1
  split at h1
  · cases h1
  · cases h1
  · rename_i td hu h2 h3
    simp only [loadVar, isAgg, run_underlying h3, Sem.run_bind, Result.andThen_ok]
    simp [hc]
  · cases h1

end ops
end Go.Proofs.YtgdimfogijfmiaaDoor.AD

namespace Go.Proofs.YtgdimfogijfmiaaDoor.AD
set_option linter.unusedVariables false

section ops
variable {P : Program} {o : Oper} {fr : FR} {ba lo : List Ob} {K : AV → List Ob → List Ob → Prop} {d : Bool}

theorem readT_out {t : TypeId} {n : Option Nat} (h : readT P t = some n) : (∃ k, n = some k ∧ isAggT P t = some true ∧ (P.info? t).map (·.size) = some k) ∨ (n = none ∧ isAggT P t = some false ∧ (P.info? t).map (·.size) = some 1) := by
  unfold readT at h
  split at h
  · rename_i i h1 h2
    cases h
    exact .inl ⟨_, rfl, h1, by rw [h2]; rfl⟩
  · rename_i i h1 h2
    split at h
    · rename_i h3
      cases h
      exact .inr ⟨rfl, h1, by rw [h2]; simp [h3]⟩
    · cases h
  · cases h

/-- Cells of values that nobody writes, in a row from a place on. -/
def PCells (M : Nat → Prop) (w : World) (b off : Nat) (cs : List PV) : Prop :=
  ∃ c : Nat → Value, ∀ (j : Nat) (e : PV), cs[j]? = some e → (c j).oneCell' = true ∧ w.cell? ⟨b, off + j, none⟩ = some (c j) ∧ VP M w (c j) e
def ACells (Γ : Ctx) (w : World) (b off : Nat) (cs : List AV) : Prop :=
  ∃ c : Nat → Value, ∀ (j : Nat) (e : AV), cs[j]? = some e → (c j).oneCell' = true ∧ w.cell? ⟨b, off + j, none⟩ = some (c j) ∧ VA Γ w (c j) e

theorem PCells.drop {M : Nat → Prop} {w : World} {b off : Nat} {cs : List PV} (h : PCells M w b off cs) (n : Nat) : PCells M w b (off + n) (cs.drop n) := by
  obtain ⟨c, h⟩ := h
  refine ⟨fun j => c (n + j), fun j e he => ?_⟩
  rw [List.getElem?_drop] at he
  have := h _ e he
  rw [Nat.add_assoc]; exact this
theorem ACells.drop {Γ : Ctx} {w : World} {b off : Nat} {cs : List AV} (h : ACells Γ w b off cs) (n : Nat) : ACells Γ w b (off + n) (cs.drop n) := by
  obtain ⟨c, h⟩ := h
  refine ⟨fun j => c (n + j), fun j e he => ?_⟩
  rw [List.getElem?_drop] at he
  have := h _ e he
  rw [Nat.add_assoc]; exact this

theorem list_agg {c : Nat → Value} {n : Nat} : ((List.range n).map c).length = n := by simp
theorem list_agg_get {c : Nat → Value} {n j : Nat} {v : Value} (h : ((List.range n).map c)[j]? = some v) : j < n ∧ v = c j := by
  have hj := get_lt h
  rw [list_agg] at hj
  rw [List.getElem?_map, List.getElem?_range hj] at h
  exact ⟨hj, (Option.some.inj h).symm⟩

theorem readP_out {t : TypeId} {n : Option Nat} (hr : readT P t = some n) {cs : List PV} {k : AV → Prop} (h : readPK n cs k) : ∃ e, k (.p e) ∧ ∀ (M : Nat → Prop) (w : World) (b off : Nat), PCells M w b off cs → ∃ v, (loadVar t ⟨b, off, none⟩).run P w = .ok v w ∧ VP M w v e := by
  rcases readT_out hr with ⟨n, rfl, h1, h2⟩ | ⟨rfl, h1, h2⟩
  · obtain ⟨hl, hk⟩ := takeK_out _ _ _ h
    refine ⟨_, hk, fun M w b off ⟨c, hc⟩ => ⟨_, run_loadVar_some (cs := (List.range n).map c) h1 h2 list_agg (fun j v hv => ?_), ?_⟩⟩
    · obtain ⟨hj, rfl⟩ := list_agg_get hv
      exact (hc j cs[j] (List.getElem?_eq_getElem (by omega))).2.1
    · refine .agg _ _ (by simp; omega) (fun j x e hx he => ?_) fun j x hx => ?_
      · obtain ⟨hj, rfl⟩ := list_agg_get (by simpa using hx)
        rw [List.getElem?_take, if_pos hj] at he
        exact (hc j e he).2.2
      · obtain ⟨hj, rfl⟩ := list_agg_get (by simpa using hx)
        exact (hc j cs[j] (List.getElem?_eq_getElem (by omega))).1
  · obtain ⟨x, r, rfl, hk⟩ := headK_out h
    refine ⟨_, hk, fun M w b off ⟨c, hc⟩ => ?_⟩
    have := hc 0 x rfl
    exact ⟨_, run_loadVar_none h1 this.2.1, this.2.2⟩

theorem readA_out {t : TypeId} {n : Option Nat} (hr : readT P t = some n) {cs : List AV} {k : AV → Prop} (h : readAK n cs k) : ∃ a, k a ∧ ∀ (Γ : Ctx) (w : World) (b off : Nat), ACells Γ w b off cs → ∃ v, (loadVar t ⟨b, off, none⟩).run P w = .ok v w ∧ VA Γ w v a := by
  rcases readT_out hr with ⟨n, rfl, h1, h2⟩ | ⟨rfl, h1, h2⟩
  · obtain ⟨hl, h⟩ := takeK_out _ _ _ h
    obtain ⟨a, ha, hk⟩ := mkAggK_out h
    refine ⟨a, hk, fun Γ w b off ⟨c, hc⟩ => ⟨_, run_loadVar_some (cs := (List.range n).map c) h1 h2 list_agg (fun j v hv => ?_), ?_⟩⟩
    · obtain ⟨hj, rfl⟩ := list_agg_get hv
      exact (hc j cs[j] (List.getElem?_eq_getElem (by omega))).2.1
    · refine VA.of_agg ⟨by simp; omega, fun j x e hx he => ?_⟩ (fun j x hx => ?_) ha
      · obtain ⟨hj, rfl⟩ := list_agg_get (by simpa using hx)
        rw [List.getElem?_take, if_pos hj] at he
        exact (hc j e he).2.2
      · obtain ⟨hj, rfl⟩ := list_agg_get (by simpa using hx)
        exact (hc j cs[j] (List.getElem?_eq_getElem (by omega))).1
  · obtain ⟨x, r, rfl, hk⟩ := headK_out h
    refine ⟨_, hk, fun Γ w b off ⟨c, hc⟩ => ?_⟩
    have := hc 0 x rfl
    exact ⟨_, run_loadVar_none h1 this.2.1, this.2.2⟩

theorem VP.pcells {M : Nat → Prop} {w : World} {v : Value} {cs : List PV} (h : VP M w v (.ptr cs)) : ∃ (b off : Nat), v = .pointer (some ⟨b, off, none⟩) ∧ PCells M w b off cs ∧ ¬ M b ∧ b < w.heap.size := by
  obtain ⟨b, off, c, h1, h2, h3, h4, h5⟩ := h.ptr_inv
  exact ⟨b, off, h1, ⟨c, fun j e he => ⟨(h4 j e he).1, (h4 j e he).2, h5 j e he⟩⟩, h2, h3⟩

theorem VP.of_pcells {M : Nat → Prop} {w : World} {b off : Nat} {cs : List PV} (h : PCells M w b off cs) (h1 : ¬ M b) (h2 : b < w.heap.size) : VP M w (.pointer (some ⟨b, off, none⟩)) (.ptr cs) := by
  obtain ⟨c, h⟩ := h
  exact .ptr b off cs c h1 h2 (fun j e he => ⟨(h j e he).1, (h j e he).2.1⟩) fun j e he => (h j e he).2.2

theorem CellsP.cells {M : Nat → Prop} {w : World} {c : Value} {e : PV} {cs : List PV} (h : CellsP e cs) (hv : VP M w c e) : c.cells.size = cs.length ∧ ∀ (j : Nat) (e' : PV), cs[j]? = some e' → ∃ x, c.cells[j]? = some x ∧ VP M w x e' := by
  cases h with
  | agg cs =>
    cases hv with
    | agg xs cs h1 h2 h3 =>
      refine ⟨h1, fun j e' he => ?_⟩
      have hj : j < xs.size := by rw [h1]; exact get_lt he
      exact ⟨xs[j], Array.getElem?_eq_getElem hj, h2 j _ _ (Array.getElem?_eq_getElem hj) he⟩
  | one e hs =>
    rw [cells_of_oneCell (hv.oneCell hs)]
    refine ⟨rfl, fun j e' he => ?_⟩
    cases j with
    | zero => simp at he; subst he; exact ⟨c, rfl, hv⟩
    | succ j => simp at he

/-- An element's cells, in its row. -/
theorem RowOf.pcells {M : Nat → Prop} {w : World} {sz b off : Nat} {es : List PV} (h : RowOf M w sz (cellsAt w (some ⟨b, off, none⟩)) es) {j : Nat} {e : PV} (hj : es[j]? = some e) {cs : List PV} (hc : CellsP e cs) : PCells M w b (off + j * sz) cs ∧ cs.length = sz := by
  obtain ⟨c, h1, h2, h3⟩ := h.get hj
  obtain ⟨h4, h5⟩ := hc.cells h3
  refine ⟨⟨fun i => c.cells.getD i undef, fun i e' he => ?_⟩, by rw [← h4, h1]⟩
  obtain ⟨x, hx, hv⟩ := h5 i e' he
  have h6 := h2 i x hx
  simp only [cellsAt, add_none] at h6
  have e1 : c.cells.getD i undef = x := by simp [hx]
  simp only [e1]
  exact ⟨h6.1, by rw [Nat.add_assoc]; exact h6.2, hv⟩

theorem ObOk.acells {Γ : Ctx} {w : World} {m : MI} {cs : List AV} (h : ObOk Γ w m (.cells cs)) : ∃ b xs t, m = .cells b ∧ w.heap[b]? = some (.cells xs t (0, 0)) ∧ xs.size = cs.length ∧ (∀ (j : Nat) (x : Value) (c : AV), xs[j]? = some x → cs[j]? = some c → VA Γ w x c ∧ x.oneCell' = true) ∧ ACells Γ w b 0 cs := by
  cases h with
  | cells b xs t cs h1 h2 h3 =>
    refine ⟨b, xs, t, rfl, h1, h2, h3, fun j => xs.getD j undef, fun j e he => ?_⟩
    have hj : j < xs.size := by rw [h2]; exact get_lt he
    have e1 : xs.getD j undef = xs[j] := by simp [hj]
    simp only [e1]
    have := h3 j xs[j] e (Array.getElem?_eq_getElem hj) he
    exact ⟨this.2, by rw [cell_of_row w b _ xs t (0, 0) h1, Nat.zero_add]; exact Array.getElem?_eq_getElem hj, this.1⟩

theorem ObOk.row {Γ : Ctx} {w : World} {m : MI} {g sz : Nat} {es : List PV} (h : ObOk Γ w m (.buf g sz es)) : (∃ n, m = .buf none g n ∧ es = []) ∨ ∃ b xs t, m = .buf (some b) g xs.size ∧ w.heap[b]? = some (.cells xs t (0, 0)) ∧ es.length * sz ≤ xs.size ∧ RowOf Γ.M w sz (fun k => xs[k]?) es := by
  cases h with
  | buf0 g sz n => exact .inl ⟨n, rfl, rfl⟩
  | buf b g n sz xs t es c h1 h2 h3 h4 =>
    subst h2
    exact .inr ⟨b, xs, t, rfl, h1, h3, c, fun j e he => (h4 j e he).1, fun j e he => (h4 j e he).2.1, fun j e he => (h4 j e he).2.2⟩

theorem ObOk.of_row {Γ : Ctx} {w : World} {b g sz : Nat} {xs : Array Value} {t : TypeId} {es : List PV} (h1 : w.heap[b]? = some (.cells xs t (0, 0))) (h3 : es.length * sz ≤ xs.size) (h : RowOf Γ.M w sz (fun k => xs[k]?) es) : ObOk Γ w (.buf (some b) g xs.size) (.buf g sz es) := by
  obtain ⟨c, a1, a2, a3⟩ := h
  exact .buf b g _ sz xs t es c h1 rfl h3 fun j e he => ⟨a1 j e he, a2 j e he, a3 j e he⟩

theorem row_at {M : Nat → Prop} {w : World} {sz b : Nat} {xs : Array Value} {t : TypeId} {es : List PV} (h1 : w.heap[b]? = some (.cells xs t (0, 0))) (h : RowOf M w sz (fun k => xs[k]?) es) : RowOf M w sz (cellsAt w (some ⟨b, 0, none⟩)) es :=
  h.congr fun k _ => by simp only [cellsAt, add_none, Nat.zero_add]; exact cell_of_row w b k xs t (0, 0) h1

theorem ref_inv {Γ : Ctx} {w : World} {v : Value} {r : Rf} {off b : Nat} (h : VA Γ w v (.ref r off)) (hm : Γ.at r = some (.cells b)) : v = .pointer (some ⟨b, off, none⟩) := by
  cases h with
  | ref r off b' h => rw [hm] at h; cases h; rfl

theorem elt_inv {Γ : Ctx} {w : World} {v : Value} {r : Rf} {g sz idx off b n : Nat} (h : VA Γ w v (.elt r g sz idx off)) (hm : Γ.at r = some (.buf (some b) g n)) : v = .pointer (some ⟨b, idx * sz + off, none⟩) := by
  cases h with
  | elt r g sz n b' idx off h => rw [hm] at h; cases h; rfl
  | eltOld v r g sz idx off b' g' n' h hg _ => rw [hm] at h; cases h; omega
  | eltGone v r g sz idx off h _ => rw [hm] at h; cases h

theorem view_inv {Γ : Ctx} {w : World} {v : Value} {r : Rf} {g sz len n : Nat} {b : Option Nat} (h : VA Γ w v (.view r g sz len)) (hm : Γ.at r = some (.buf b g n)) :
    (b = none ∧ v = .slice none 0 0 ∧ len = 0) ∨ ∃ b' cap, b = some b' ∧ v = .slice (some ⟨b', 0, none⟩) len cap ∧ len ≤ cap ∧ cap * sz = n := by
  cases h with
  | view0 r g sz n' h => rw [hm] at h; cases h; exact .inl ⟨rfl, rfl, rfl⟩
  | view r g sz n' b' len cap h hl hc => rw [hm] at h; cases h; exact .inr ⟨b', cap, rfl, rfl, hl, hc⟩
  | viewOld v r g sz len b' g' n' h hg _ => rw [hm] at h; cases h; omega
  | viewGone v r g sz len h _ => rw [hm] at h; cases h

theorem ObOk.rowA {Γ : Ctx} {w : World} {m : MI} {g : Nat} {es : List AV} (h : ObOk Γ w m (.bufA g es)) : ∃ b xs t, m = .buf (some b) g xs.size ∧ w.heap[b]? = some (.cells xs t (0, 0)) ∧ es.length ≤ xs.size ∧ ∀ (j : Nat) (x : Value) (c : AV), xs[j]? = some x → es[j]? = some c → VA Γ w x c ∧ x.oneCell' = true := by
  cases h with
  | bufA b g n xs t es h1 h2 h3 h4 => subst h2; exact ⟨b, xs, t, rfl, h1, h3, h4⟩

theorem heap_acells1 {Γ : Ctx} {w : World} {b : Nat} {xs : Array Value} {t : TypeId} {es : List AV} {idx : Nat} {e : AV} (h3 : w.heap[b]? = some (.cells xs t (0, 0))) (h5 : ∀ (j : Nat) (x : Value) (c : AV), xs[j]? = some x → es[j]? = some c → VA Γ w x c ∧ x.oneCell' = true) (he : es[idx]? = some e) (hlt : idx < es.length) (h4 : es.length ≤ xs.size) : ACells Γ w b idx [e] := by
  have hj : idx < xs.size := by omega
  refine ⟨fun _ => xs[idx], fun j e' hj' => ?_⟩
  cases j with
  | zero =>
    simp at hj'
    subst hj'
    obtain ⟨q1, q2⟩ := h5 idx xs[idx] e (Array.getElem?_eq_getElem hj) he
    exact ⟨q2, by rw [cell_of_row w b _ xs t (0, 0) h3, Nat.add_zero]; exact Array.getElem?_eq_getElem hj, q1⟩
  | succ j => simp at hj'

theorem aliveV_at {r : Rf} {g : Nat} (hal : aliveV r g ba lo) {μ : List MI} {w : World} (hinv : Inv μ w ba lo) : ∃ b n', Ctx.at ⟨blocks μ, ba.length, μ⟩ r = some (.buf b g n') := by
  cases r with
  | l m =>
    obtain ⟨o', h5, h6⟩ := atK_out _ _ _ hal
    cases o' <;> first | exact (show False from h6).elim | skip
    · rename_i g' sz' es
      obtain rfl := h6
      obtain ⟨mi, h7, h8⟩ := hinv.at_l h5
      rcases h8.row with ⟨n', rfl, rfl⟩ | ⟨b, xs, t', rfl, _, _, _⟩
      · exact ⟨_, _, h7⟩
      · exact ⟨_, _, h7⟩
    · rename_i g' es
      obtain rfl := h6
      obtain ⟨mi, h7, h8⟩ := hinv.at_l h5
      obtain ⟨b, xs, t', rfl, _⟩ := h8.rowA
      exact ⟨_, _, h7⟩
  | b id =>
    obtain ⟨ob, h5, h6⟩ := atK_out _ _ _ hal
    cases ob <;> first | exact (show False from h6).elim | skip
    · rename_i g' sz' es
      obtain rfl := h6
      obtain ⟨mi, h7, h8⟩ := hinv.at_b h5
      rcases h8.of_take.row with ⟨n', rfl, rfl⟩ | ⟨b, xs, t', rfl, _, _, _⟩
      · exact ⟨_, _, h7⟩
      · exact ⟨_, _, h7⟩
    · rename_i g' es
      obtain rfl := h6
      obtain ⟨mi, h7, h8⟩ := hinv.at_b h5
      obtain ⟨b, xs, t', rfl, _⟩ := h8.of_take.rowA
      exact ⟨_, _, h7⟩

theorem tail_inv {Γ : Ctx} {w : World} {v : Value} {r : Rf} {g sz off len n : Nat} {b : Option Nat} (h : VA Γ w v (.tail r g sz off len)) (hm : Γ.at r = some (.buf b g n)) :
    (len = 0 ∧ ∃ A, v = .slice A 0 0) ∨ ∃ b' cap, b = some b' ∧ v = .slice (some ⟨b', off * sz, none⟩) len cap ∧ len ≤ cap ∧ (off + cap) * sz = n := by
  cases h with
  | tail r g sz n b' off len cap h hl hc => rw [hm] at h; cases h; exact .inr ⟨b', cap, rfl, rfl, hl, hc⟩
  | tail0 r g sz n off b' A h => exact .inl ⟨rfl, A, rfl⟩
  | tailOld v r g sz off len b' g' n' h hg _ => rw [hm] at h; cases h; omega
  | tailGone v r g sz off len h _ => rw [hm] at h; cases h

theorem run_load {t : TypeId} {x : Operand} {a : Act} {w : World} {ad : Addr} {v : Value} (ho : o.op = .load t x) (hx : a.eval x = .pointer (some ad)) (h : (loadVar t ad).run P w = .ok v w) : (execOp a.eval o).run P w = .ok (.value v) w := by
  simp [execOp, ho, hx, Instr.loadAt, Instr.sureAddr, h]

theorem s_load {t : TypeId} {n : Option Nat} {x : Operand} {rx : Rv} (ho : o.op = .load t x) (hr : readT P t = some n) (hx : rv x = some rx) (h : opV P d (.load n rx) fr ba lo K) : Sound1 P o fr ba lo K := by
  have hm : x ∈ o.op.operands.toList := by simp [ho, Op.operands]
  simp only [opV, evK_eq] at h
  split at h
  · rename_i cs e1
    obtain ⟨e, hk, hl⟩ := readP_out hr h
    refine .quiet _ hk fun μ w a hi hp => ?_
    obtain ⟨b, off, h1, h2, h3, h4⟩ := (hp.get hm hx e1).pv.pcells
    obtain ⟨v, h5, h6⟩ := hl _ w b off h2
    exact ⟨v, run_load ho h1 h5, .p _ _ h6⟩
  · rename_i m off e1
    obtain ⟨ob, hob, h⟩ := atK_out _ _ _ h
    split at h
    · rename_i cs
      obtain ⟨hl, h⟩ := dropK_out _ _ _ h
      obtain ⟨v, hk, hl⟩ := readA_out hr h
      refine .quiet _ hk fun μ w a hi hp => ?_
      obtain ⟨mi, h1, h2⟩ := hi.at_l hob
      obtain ⟨b, xs, t', rfl, h3, h4, h5, h6⟩ := h2.acells
      have h7 := ref_inv (hp.get hm hx e1) h1
      obtain ⟨c, h8, h9⟩ := hl _ w b (0 + off) (h6.drop off)
      rw [Nat.zero_add] at h8
      exact ⟨c, run_load ho h7 h8, h9⟩
    · exact h.elim
  · rename_i id off e1
    obtain ⟨ob, hob, h⟩ := atK_out _ _ _ h
    cases ob <;> first | exact (show False from h).elim | skip
    rename_i cs
    obtain ⟨hl, h⟩ := dropK_out _ _ _ h
    obtain ⟨v, hk, hl⟩ := readA_out hr h
    refine .quiet _ hk fun μ w a hi hp => ?_
    obtain ⟨mi, h1, h2⟩ := hi.at_b hob
    obtain ⟨b, xs, t', rfl, h3, h4, h5, h6⟩ := h2.of_take.acells
    have h7 := ref_inv (hp.get hm hx e1) h1
    obtain ⟨c, h8, h9⟩ := hl _ w b (0 + off) (h6.drop off)
    rw [Nat.zero_add] at h8
    exact ⟨c, run_load ho h7 h8, h9⟩
  · rename_i m g sz idx off e1
    obtain ⟨ob, hob, h⟩ := atK_out _ _ _ h
    split at h
    · rename_i g' sz' es
      obtain ⟨⟨rfl, rfl⟩, e, he, h⟩ := h
      obtain ⟨cs, hcs, h⟩ := cellsPK_out h
      obtain ⟨hl, h⟩ := dropK_out _ _ _ h
      obtain ⟨v, hk, hl⟩ := readP_out hr h
      refine .quiet _ hk fun μ w a hi hp => ?_
      obtain ⟨mi, h1, h2⟩ := hi.at_l hob
      rcases h2.row with ⟨n', rfl, rfl⟩ | ⟨b, xs, t', rfl, h3, h4, h5⟩
      · simp at he
      · have h7 := elt_inv (hp.get hm hx e1) h1
        obtain ⟨h8, h9⟩ := (row_at h3 h5).pcells he hcs
        obtain ⟨c, h10, h11⟩ := hl _ w b (0 + idx * sz + off) (h8.drop off)
        rw [Nat.zero_add] at h10
        exact ⟨c, run_load ho h7 h10, .p _ _ h11⟩
    · rename_i g' es
      obtain ⟨⟨rfl, rfl, rfl⟩, e, he, h⟩ := h
      obtain ⟨v, hk, hl⟩ := readA_out hr h
      refine .quiet _ hk fun μ w a hi hp => ?_
      obtain ⟨mi, h1, h2⟩ := hi.at_l hob
      obtain ⟨b, xs, t', rfl, h3, h4, h5⟩ := h2.rowA
      have h7 := elt_inv (hp.get hm hx e1) h1
      obtain ⟨c, h8, h9⟩ := hl _ w b idx (heap_acells1 h3 h5 he (get_lt he) h4)
      exact ⟨c, run_load ho (by rw [h7]; simp) h8, h9⟩
    · exact h.elim
  · rename_i id g sz idx off e1
    obtain ⟨ob, hob, h⟩ := atK_out _ _ _ h
    cases ob <;> first | exact (show False from h).elim | skip
    · rename_i g' sz' es
      obtain ⟨⟨rfl, rfl⟩, e, he, h⟩ := h
      obtain ⟨cs, hcs, h⟩ := cellsPK_out h
      obtain ⟨hl, h⟩ := dropK_out _ _ _ h
      obtain ⟨v, hk, hl⟩ := readP_out hr h
      refine .quiet _ hk fun μ w a hi hp => ?_
      obtain ⟨mi, h1, h2⟩ := hi.at_b hob
      rcases h2.of_take.row with ⟨n', rfl, rfl⟩ | ⟨b, xs, t', rfl, h3, h4, h5⟩
      · simp at he
      · have h7 := elt_inv (hp.get hm hx e1) h1
        obtain ⟨h8, h9⟩ := (row_at h3 h5).pcells he hcs
        obtain ⟨c, h10, h11⟩ := hl _ w b (0 + idx * sz + off) (h8.drop off)
        rw [Nat.zero_add] at h10
        exact ⟨c, run_load ho h7 h10, .p _ _ h11⟩
    · rename_i g' es
      obtain ⟨⟨rfl, rfl, rfl⟩, e, he, h⟩ := h
      obtain ⟨v, hk, hl⟩ := readA_out hr h
      refine .quiet _ hk fun μ w a hi hp => ?_
      obtain ⟨mi, h1, h2⟩ := hi.at_b hob
      obtain ⟨b, xs, t', rfl, h3, h4, h5⟩ := h2.of_take.rowA
      have h7 := elt_inv (hp.get hm hx e1) h1
      obtain ⟨c, h8, h9⟩ := hl _ w b idx (heap_acells1 h3 h5 he (get_lt he) h4)
      exact ⟨c, run_load ho (by rw [h7]; simp) h8, h9⟩
  · exact h.elim

theorem ref_ptr {Γ : Ctx} {w : World} {v : Value} {r : Rf} {off : Nat} (h : VA Γ w v (.ref r off)) : ∃ b, Γ.at r = some (.cells b) ∧ v = .pointer (some ⟨b, off, none⟩) := by
  cases h with
  | ref r off b h => exact ⟨b, h, rfl⟩

theorem s_nilck {x : Operand} {rx : Rv} (ho : o.op = .nilCheck x) (hx : rv x = some rx) (h : opV P d (.nilck rx) fr ba lo K) : Sound1 P o fr ba lo K := by
  have hm : x ∈ o.op.operands.toList := by simp [ho, Op.operands]
  simp only [opV, evK_eq] at h
  have run : ∀ (a : Act) (w : World) (ad : Addr), a.eval x = .pointer (some ad) → (execOp a.eval o).run P w = .ok (.value (.pointer (some ad))) w := fun a w ad h => by simp [execOp, ho, h]
  split at h
  · rename_i cs e1
    refine .quiet _ h fun μ w a hi hp => ?_
    have h0 := hp.get hm hx e1
    obtain ⟨b, off, h1, h2, h3, h4⟩ := h0.pv.pcells
    exact ⟨_, run a w _ h1, h1 ▸ h0⟩
  · rename_i r off e1
    refine .quiet _ h fun μ w a hi hp => ?_
    have h0 := hp.get hm hx e1
    obtain ⟨b, h1, h2⟩ := ref_ptr h0
    exact ⟨_, run a w _ h2, h2 ▸ h0⟩
  · rename_i f e1
    refine .quiet _ h fun μ w a hi hp => ?_
    have h0 := hp.get hm hx e1
    generalize hv : a.eval x = v at h0
    cases h0 with
    | p v e h1 =>
      cases h1
      exact ⟨_, by cases f <;> simp [execOp, ho, hv], .p _ _ (.fn f)⟩
  · rename_i f as bs e1
    refine .quiet _ h fun μ w a hi hp => ?_
    have h0 := hp.get hm hx e1
    generalize hv : a.eval x = v at h0
    cases h0 with
    | clos _ xs ys _ _ h1 h2 h3 h4 => exact ⟨_, by simp [execOp, ho, hv], .clos _ xs ys as bs h1 h2 h3 h4⟩
  · exact h.elim

theorem s_fieldA {s : TypeId} {x : Operand} {f : Nat} {rx : Rv} {fields : Array Field} {fd : Field} {n : Nat} (ho : o.op = .fieldAddr s x f) (hs : P.underlying s = some (.struct fields)) (hf : fields[f]? = some fd) (hn : sizeT P fd.type = some n) (h0 : n ≠ 0) (hx : rv x = some rx) (h : opV P d (.fieldA fd.offset rx) fr ba lo K) : Sound1 P o fr ba lo K := by
  have hm : x ∈ o.op.operands.toList := by simp [ho, Op.operands]
  obtain ⟨i, hi, hsz⟩ := Option.map_eq_some_iff.1 hn
  simp only [opV, evK_eq] at h
  have run : ∀ (a : Act) (w : World) (b off : Nat), a.eval x = .pointer (some ⟨b, off, none⟩) → (execOp a.eval o).run P w = .ok (.value (.pointer (some ⟨b, off + fd.offset, none⟩))) w := fun a w b off h => by
    have : ¬ i.size = 0 := by rw [hsz]; exact h0
    simp [execOp, ho, h, Instr.fieldAt, run_underlying hs, hf, Instr.sureAddr, fieldPlace, sizeOf, typeInfo, hi, this, add_none]
  split at h
  · rename_i cs e1
    obtain ⟨hl, h⟩ := dropK_out _ _ _ h
    refine .quiet _ h fun μ w a hi hp => ?_
    obtain ⟨b, off, h1, h2, h3, h4⟩ := (hp.get hm hx e1).pv.pcells
    exact ⟨_, run a w b off h1, .p _ _ (VP.of_pcells (h2.drop _) h3 h4)⟩
  · rename_i r off e1
    refine .quiet _ h fun μ w a hi hp => ?_
    obtain ⟨b, h1, h2⟩ := ref_ptr (hp.get hm hx e1)
    exact ⟨_, run a w b off h2, .ref _ _ _ h1⟩
  · rename_i r g sz i' off e1
    obtain ⟨h1, h⟩ := h
    refine .quiet _ h fun μ w a hi hp => ?_
    have hv := hp.get hm hx e1
    have key : ∃ b n, Ctx.at ⟨blocks μ, ba.length, μ⟩ r = some (.buf (some b) g n) := by
      cases r with
      | l m =>
        obtain ⟨o', h2, h3⟩ := atK_out _ _ _ h1
        split at h3
        · rename_i g' sz' es
          obtain ⟨rfl, h4⟩ := h3
          obtain ⟨mi, h5, h6⟩ := hi.at_l h2
          rcases h6.row with ⟨n', rfl, rfl⟩ | ⟨b, xs, t', rfl, _, _, _⟩
          · simp at h4
          · exact ⟨b, _, h5⟩
        · exact h3.elim
      | b id =>
        obtain ⟨ob, h2, h3⟩ := atK_out _ _ _ h1
        cases ob <;> first | exact (show False from h3).elim | skip
        rename_i g' sz' es
        obtain ⟨rfl, h4⟩ := h3
        obtain ⟨mi, h5, h6⟩ := hi.at_b h2
        rcases h6.of_take.row with ⟨n', rfl, rfl⟩ | ⟨b, xs, t', rfl, _, _, _⟩
        · simp at h4
        · exact ⟨b, _, h5⟩
    obtain ⟨b, n', h2⟩ := key
    have h3 := elt_inv hv h2
    refine ⟨_, run a w _ _ h3, ?_⟩
    rw [Nat.add_assoc]
    exact .elt r g sz n' b i' (off + fd.offset) h2
  · exact h.elim

theorem asInt_run {w : World} (k : IntKind) (n : Int) : (asIntOf (.int k n)).run P w = .ok (k, n) w := rfl

theorem s_elemA {t e : TypeId} {x i : Operand} {rx ri : Rv} {n : Nat} (ho : o.op = .indexAddr t x i) (ht : P.underlying t = some (.slice e)) (hn : sizeT P e = some n) (hx : rv x = some rx) (hi : rv i = some ri) (h : opV P d (.elemA n rx ri) fr ba lo K) : Sound1 P o fr ba lo K := by
  have hm : x ∈ o.op.operands.toList := by simp [ho, Op.operands]
  have hmi : i ∈ o.op.operands.toList := by simp [ho, Op.operands]
  obtain ⟨ti, hti, hsz⟩ := Option.map_eq_some_iff.1 hn
  simp only [opV, evK_eq] at h
  have run : ∀ (a : Act) (w : World) (b off len cap : Nat) (k : IntKind) (j : Int), a.eval x = .slice (some ⟨b, off, none⟩) len cap → a.eval i = .int k j → 0 ≤ j → j < len →
      (execOp a.eval o).run P w = .ok (.value (.pointer (some ⟨b, off + j.toNat * n, none⟩))) w := fun a w b off len cap k j h1 h2 h3 h4 => by
    simp [execOp, ho, h1, h2, Instr.indexAt, asIntOf, run_underlying ht, h3, h4, sizeOf, typeInfo, hti, hsz, add_none]
  have rowcase : ∀ {sz : Nat} {es : List PV} {k : IntKind} {j : Int} {el : PV} {cs : List PV} {M : Nat → Prop} {w : World} {a : Act} {A : Option Addr} {len cap : Nat}, a.eval x = .slice A len cap → a.eval i = .int k j → 0 ≤ j → j < len → es[j.toNat]? = some el → CellsP el cs → sz = n → RowOf M w sz (cellsAt w A) es →
      (∀ ad, A = some ad → ad.spot = none ∧ ¬ M ad.block ∧ ad.block < w.heap.size) → (A = none → len = 0) → ∃ c, (execOp a.eval o).run P w = .ok (.value c) w ∧ VP M w c (.ptr cs) := by
    intro sz es k j el cs M w a A len cap h1 h2 h3 h4 h5 h6 h7 h8 h9 h10
    cases A with
    | none => have := h10 rfl; omega
    | some ad =>
      obtain ⟨b, off, sp⟩ := ad
      obtain ⟨rfl, h11, h12⟩ := h9 _ rfl
      obtain ⟨h13, h14⟩ := h8.pcells h5 h6
      subst h7
      exact ⟨_, run a w b off len cap k j h1 h2 h3 h4, VP.of_pcells h13 h11 h12⟩
  split at h
  · rename_i sz' es k j e1 e2
    obtain ⟨rfl, el, ⟨h3, h5⟩, h⟩ := h
    obtain ⟨cs, h6, hk⟩ := cellsPK_out h
    refine .quiet _ hk fun μ w a hinv hp => ?_
    obtain ⟨A, c, h1, hlc, h8, h10, h9⟩ := (hp.get hm hx e1).pv.list_row
    have h4 : j < (es.length : Int) := by have := get_lt h5; omega
    obtain ⟨c, h15, h16⟩ := rowcase h1 (hp.get hmi hi e2).int_inv h3 h4 h5 h6 rfl h8 (fun ad e => h9 ad e (by intro e2; rw [e2] at h5; simp at h5)) (fun e => by have := h10 e; omega)
    exact ⟨c, h15, .p _ _ h16⟩
  · rename_i sz' es sp k j e1 e2
    obtain ⟨rfl, el, ⟨h3, h5⟩, h⟩ := h
    obtain ⟨cs, h6, hk⟩ := cellsPK_out h
    refine .quiet _ hk fun μ w a hinv hp => ?_
    obtain ⟨b, off, c, h1, hlc, h8, h9, h10⟩ := (hp.get hm hx e1).pv.lent_row
    have h4 : j < (es.length : Int) := by have := get_lt h5; omega
    have h11 : (es ++ sp)[j.toNat]? = some el := by rw [List.getElem?_append_left (get_lt h5)]; exact h5
    obtain ⟨c, h15, h16⟩ := rowcase h1 (hp.get hmi hi e2).int_inv h3 h4 h11 h6 rfl h8 (fun ad e => by cases e; exact ⟨rfl, h9, h10⟩) (fun e => by cases e)
    exact ⟨c, h15, .p _ _ h16⟩
  · rename_i r g sz' len k j e1 e2
    obtain ⟨⟨rfl, h3, h4⟩, h1, h⟩ := h
    refine .quiet _ h fun μ w a hinv hp => ?_
    have hv := hp.get hm hx e1
    obtain ⟨b, n', h2⟩ := aliveV_at h1 hinv
    rcases view_inv hv h2 with ⟨_, _, rfl⟩ | ⟨b', cap, rfl, h5, h6, h7⟩
    · omega
    · refine ⟨_, run a w b' 0 len cap k j h5 (hp.get hmi hi e2).int_inv h3 h4, ?_⟩
      rw [Nat.zero_add]
      exact .elt r g _ n' b' j.toNat 0 h2
  · rename_i r g sz' off len k j e1 e2
    obtain ⟨⟨rfl, h3, h4⟩, h1, h⟩ := h
    refine .quiet _ h fun μ w a hinv hp => ?_
    have hv := hp.get hm hx e1
    obtain ⟨b, n', h2⟩ := aliveV_at h1 hinv
    rcases tail_inv hv h2 with ⟨rfl, _⟩ | ⟨b', cap, rfl, h5, h6, h7⟩
    · omega
    · refine ⟨_, run a w b' (off * n) len cap k j h5 (hp.get hmi hi e2).int_inv h3 h4, ?_⟩
      have := VA.elt (w := w) r g n n' b' (off + j.toNat) 0 h2
      rw [Nat.add_zero, Nat.add_mul] at this
      exact this
  · exact h.elim

theorem s_arrA {t e : TypeId} {x i : Operand} {rx ri : Rv} {n len : Nat} (ho : o.op = .indexAddr t x i) (ht : P.underlying t = some (.array len e)) (hn : sizeT P e = some n) (hx : rv x = some rx) (hi : rv i = some ri) (h : opV P d (.arrA n len rx ri) fr ba lo K) : Sound1 P o fr ba lo K := by
  have hm : x ∈ o.op.operands.toList := by simp [ho, Op.operands]
  have hmi : i ∈ o.op.operands.toList := by simp [ho, Op.operands]
  obtain ⟨ti, hti, hsz⟩ := Option.map_eq_some_iff.1 hn
  simp only [opV, evK_eq] at h
  split at h
  · rename_i r off k j e1 e2
    obtain ⟨⟨h3, h4⟩, h⟩ := h
    refine .quiet _ h fun μ w a hinv hp => ?_
    obtain ⟨b, h1, h2⟩ := ref_ptr (hp.get hm hx e1)
    refine ⟨_, ?_, .ref r _ b h1⟩
    simp [execOp, ho, h2, (hp.get hmi hi e2).int_inv, Instr.indexAt, asIntOf, run_underlying ht, Instr.sureAddr, h3, h4, sizeOf, typeInfo, hti, hsz, add_none]
  · exact h.elim

end ops
end Go.Proofs.YtgdimfogijfmiaaDoor.AD
