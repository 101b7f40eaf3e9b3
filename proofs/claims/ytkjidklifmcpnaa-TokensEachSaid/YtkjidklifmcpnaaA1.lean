/- A plainer machine, one: values without addresses, objects that may be written, and when a value of the model stands for one of them. No program in sight. -/
import Derived.Calls
import Derived.RangeFuncNested
import Derived.RangeFuncLeaves
import Derived.RangeFuncCalls
import Derived.OrdersIn
import Derived.TacticsIn
import Derived.Orders
import Derived.Below
import Derived.Laws.Sem
namespace Go.Proofs.Ytkjidklifmcpnaa.AD
set_option linter.unusedVariables false

/-- Values that nothing writes any more: with what they hold. -/
inductive PV where
  | undef
  | bool (b : Bool)
  | int (k : IntKind) (n : Int)
  | str (s : ByteArray)
  | agg (cs : List PV)
  | tup (vs : List PV)
  | nils
  | list (sz : Nat) (es : List PV)
  | lent (sz : Nat) (es sp : List PV)
  | nilp
  | ptr (cs : List PV)
  | fn (f : Fn)
  | nilf
  | nilm
  | nili
  | iface (t : TypeId) (v : PV)
  deriving Inhabited

/-- Which object: one of the call's own, or an elder one. -/
inductive Rf where
  | l (k : Nat)
  | b (id : Nat)
  deriving Inhabited

inductive AV where
  | p (v : PV)
  | ref (r : Rf) (off : Nat)
  | view (r : Rf) (g sz len : Nat)
  | elt (r : Rf) (g sz idx off : Nat)
  | mapr (r : Rf)
  | clos (f : Fn) (first cap : List AV)
  | agg (cs : List AV)
  | tup (vs : List AV)
  deriving Inhabited

/-- What is known of an object's place. -/
inductive MI where
  | cells (b : Nat)
  | buf (b : Option Nat) (g n : Nat)
  | map (b : Nat)
  | gone
  deriving Inhabited

def MI.block? : MI → Option Nat
  | .cells b => some b
  | .buf b _ _ => b
  | .map b => some b
  | .gone => none

/-- How a range over a function stands: between two rounds, in one, left by a jump, over. -/
inductive LSt where
  | ready
  | busy
  | done (e : Exit)
  | over

inductive Ob where
  | cells (cs : List AV)
  | buf (g sz : Nat) (es : List PV)
  | map (es : List (PV × PV))
  | loop (l : Nat) (r : Loop) (ks : List Nat) (cs : List AV) (st : LSt)
  | gone
  deriving Inhabited

def PV.scalar : PV → Bool
  | .agg _ | .tup _ | .undef => false
  | _ => true

inductive VP (M : Nat → Prop) (w : World) : Value → PV → Prop
  | undef (v : Value) : VP M w v .undef
  | bool (b : Bool) : VP M w (.bool b) (.bool b)
  | int (k : IntKind) (n : Int) : VP M w (.int k n) (.int k n)
  | str (s : ByteArray) : VP M w (.string s) (.str s)
  | agg (xs : Array Value) (cs : List PV) : xs.size = cs.length → (∀ (j : Nat) (x : Value) (c : PV), xs[j]? = some x → cs[j]? = some c → VP M w x c) →
      (∀ (j : Nat) (x : Value), xs[j]? = some x → x.oneCell' = true) → VP M w (.agg xs) (.agg cs)
  | tup (xs : Array Value) (cs : List PV) : xs.size = cs.length → (∀ (j : Nat) (x : Value) (c : PV), xs[j]? = some x → cs[j]? = some c → VP M w x c) → VP M w (.tuple xs) (.tup cs)
  | nils : VP M w (.slice none 0 0) .nils
  | list0 (sz : Nat) (A : Option Addr) (cap : Nat) : (A = none → cap = 0) → VP M w (.slice A 0 cap) (.list sz [])
  | list (b off cap sz : Nat) (es : List PV) (c : Nat → Value) : ¬ M b → b < w.heap.size → es.length ≤ cap →
      (∀ (j : Nat) (e : PV), es[j]? = some e → (c j).cells.size = sz) →
      (∀ (j : Nat) (e : PV), es[j]? = some e → ∀ (i : Nat) (x : Value), (c j).cells[i]? = some x → x.oneCell' = true ∧ w.cell? ⟨b, off + (j * sz + i), none⟩ = some x) →
      (∀ (j : Nat) (e : PV), es[j]? = some e → VP M w (c j) e) → VP M w (.slice (some ⟨b, off, none⟩) es.length cap) (.list sz es)
  | lent (b off cap sz : Nat) (es sp : List PV) (c : Nat → Value) : ¬ M b → b < w.heap.size → (es ++ sp).length ≤ cap →
      (∀ (j : Nat) (e : PV), (es ++ sp)[j]? = some e → (c j).cells.size = sz) →
      (∀ (j : Nat) (e : PV), (es ++ sp)[j]? = some e → ∀ (i : Nat) (x : Value), (c j).cells[i]? = some x → x.oneCell' = true ∧ w.cell? ⟨b, off + (j * sz + i), none⟩ = some x) →
      (∀ (j : Nat) (e : PV), (es ++ sp)[j]? = some e → VP M w (c j) e) → VP M w (.slice (some ⟨b, off, none⟩) es.length cap) (.lent sz es sp)
  | nilp : VP M w (.pointer none) .nilp
  | ptr (b off : Nat) (cs : List PV) (c : Nat → Value) : ¬ M b → b < w.heap.size → (∀ (j : Nat) (e : PV), cs[j]? = some e → (c j).oneCell' = true ∧ w.cell? ⟨b, off + j, none⟩ = some (c j)) →
      (∀ (j : Nat) (e : PV), cs[j]? = some e → VP M w (c j) e) → VP M w (.pointer (some ⟨b, off, none⟩)) (.ptr cs)
  | fn (f : Fn) : VP M w (.func f #[] #[]) (.fn f)
  | nilf : VP M w .nilFunc .nilf
  | nilm : VP M w (.map none) .nilm
  | nili : VP M w .nilIface .nili
  | iface (t : TypeId) (x : Value) (v : PV) : VP M w x v → VP M w (.iface t x) (.iface t v)

/-- What was never to be written is as it was, and is never to be written. -/
def Stays (M : Nat → Prop) (w : World) (M' : Nat → Prop) (w' : World) : Prop :=
  w.heap.size ≤ w'.heap.size ∧ ∀ b, b < w.heap.size → ¬ M b → ¬ M' b ∧ w'.heap[b]? = w.heap[b]?

theorem Stays.refl (M : Nat → Prop) (w : World) : Stays M w M w := ⟨Nat.le_refl _, fun _ _ h => ⟨h, rfl⟩⟩
theorem Stays.trans {M M' M'' : Nat → Prop} {w w' w'' : World} (h : Stays M w M' w') (k : Stays M' w' M'' w'') : Stays M w M'' w'' :=
  ⟨Nat.le_trans h.1 k.1, fun b hb hm => by
    obtain ⟨h1, h2⟩ := h.2 b hb hm
    obtain ⟨k1, k2⟩ := k.2 b (Nat.lt_of_lt_of_le hb h.1) h1
    exact ⟨k1, k2.trans h2⟩⟩

theorem cell_same {w w' : World} {a : Addr} (h : w'.heap[a.block]? = w.heap[a.block]?) : w'.cell? a = w.cell? a := by
  unfold World.cell?; rw [h]

theorem VP.mono {M M' : Nat → Prop} {w w' : World} (hs : Stays M w M' w') {v : Value} {e : PV} (h : VP M w v e) : VP M' w' v e := by
  induction h with
  | undef v => exact .undef v
  | bool b => exact .bool b
  | int k n => exact .int k n
  | str s => exact .str s
  | agg xs cs h1 _ h3 ih => exact .agg xs cs h1 ih h3
  | tup xs cs h1 _ ih => exact .tup xs cs h1 ih
  | nils => exact .nils
  | list0 sz A cap h => exact .list0 sz A cap h
  | list b off cap sz es c h1 h2 h3 h4 h5 _ ih =>
    obtain ⟨k1, k2⟩ := hs.2 b h2 h1
    exact .list b off cap sz es c k1 (Nat.lt_of_lt_of_le h2 hs.1) h3 h4 (fun j e he i x hx => ⟨(h5 j e he i x hx).1, (cell_same k2).trans (h5 j e he i x hx).2⟩) ih
  | lent b off cap sz es sp c h1 h2 h3 h4 h5 _ ih =>
    obtain ⟨k1, k2⟩ := hs.2 b h2 h1
    exact .lent b off cap sz es sp c k1 (Nat.lt_of_lt_of_le h2 hs.1) h3 h4 (fun j e he i x hx => ⟨(h5 j e he i x hx).1, (cell_same k2).trans (h5 j e he i x hx).2⟩) ih
  | nilp => exact .nilp
  | ptr b off cs c h1 h2 h3 _ ih =>
    obtain ⟨k1, k2⟩ := hs.2 b h2 h1
    exact .ptr b off cs c k1 (Nat.lt_of_lt_of_le h2 hs.1) (fun j e he => ⟨(h3 j e he).1, (cell_same k2).trans (h3 j e he).2⟩) ih
  | fn f => exact .fn f
  | nilf => exact .nilf
  | nilm => exact .nilm
  | nili => exact .nili
  | iface t x v _ ih => exact .iface t x v ih

theorem VP.oneCell {M : Nat → Prop} {w : World} {v : Value} {e : PV} (h : VP M w v e) (hs : e.scalar = true) : v.oneCell' = true := by
  cases h <;> first | rfl | cases hs

theorem cells_of_oneCell {v : Value} (h : v.oneCell' = true) : v.cells = #[v] := by
  cases v <;> first | rfl | cases h

structure Ctx where
  M : Nat → Prop
  n0 : Nat
  μ : List MI

/-- The number of an object. -/
def Ctx.at (Γ : Ctx) : Rf → Option MI
  | .l k => Γ.μ[Γ.n0 + k]?
  | .b id => if id < Γ.n0 then Γ.μ[id]? else none

inductive VA (Γ : Ctx) (w : World) : Value → AV → Prop
  | p (v : Value) (e : PV) : VP Γ.M w v e → VA Γ w v (.p e)
  | ref (r : Rf) (off b : Nat) : Γ.at r = some (.cells b) → VA Γ w (.pointer (some ⟨b, off, none⟩)) (.ref r off)
  | view0 (r : Rf) (g sz n : Nat) : Γ.at r = some (.buf none g n) → VA Γ w (.slice none 0 0) (.view r g sz 0)
  | view (r : Rf) (g sz n b len cap : Nat) : Γ.at r = some (.buf (some b) g n) → len ≤ cap → cap * sz = n → VA Γ w (.slice (some ⟨b, 0, none⟩) len cap) (.view r g sz len)
  | viewOld (v : Value) (r : Rf) (g sz len : Nat) (b : Option Nat) (g' n : Nat) : Γ.at r = some (.buf b g' n) → g < g' → v.oneCell' = true → VA Γ w v (.view r g sz len)
  | viewGone (v : Value) (r : Rf) (g sz len : Nat) : Γ.at r = some .gone → v.oneCell' = true → VA Γ w v (.view r g sz len)
  | elt (r : Rf) (g sz n b idx off : Nat) : Γ.at r = some (.buf (some b) g n) → VA Γ w (.pointer (some ⟨b, idx * sz + off, none⟩)) (.elt r g sz idx off)
  | eltOld (v : Value) (r : Rf) (g sz idx off : Nat) (b : Option Nat) (g' n : Nat) : Γ.at r = some (.buf b g' n) → g < g' → v.oneCell' = true → VA Γ w v (.elt r g sz idx off)
  | eltGone (v : Value) (r : Rf) (g sz idx off : Nat) : Γ.at r = some .gone → v.oneCell' = true → VA Γ w v (.elt r g sz idx off)
  | mapr (r : Rf) (b : Nat) : Γ.at r = some (.map b) → VA Γ w (.map (some b)) (.mapr r)
  | maprGone (v : Value) (r : Rf) : Γ.at r = some .gone → v.oneCell' = true → VA Γ w v (.mapr r)
  | clos (f : Fn) (xs ys : Array Value) (as bs : List AV) : xs.size = as.length → ys.size = bs.length →
      (∀ (j : Nat) (x : Value) (c : AV), xs[j]? = some x → as[j]? = some c → VA Γ w x c) → (∀ (j : Nat) (x : Value) (c : AV), ys[j]? = some x → bs[j]? = some c → VA Γ w x c) →
      VA Γ w (.func f xs ys) (.clos f as bs)
  | agg (xs : Array Value) (cs : List AV) : xs.size = cs.length → (∀ (j : Nat) (x : Value) (c : AV), xs[j]? = some x → cs[j]? = some c → VA Γ w x c) →
      (∀ (j : Nat) (x : Value), xs[j]? = some x → x.oneCell' = true) → VA Γ w (.agg xs) (.agg cs)
  | tup (xs : Array Value) (cs : List AV) : xs.size = cs.length → (∀ (j : Nat) (x : Value) (c : AV), xs[j]? = some x → cs[j]? = some c → VA Γ w x c) → VA Γ w (.tuple xs) (.tup cs)

inductive MI.le : MI → MI → Prop
  | refl (m : MI) : MI.le m m
  | goneB (b : Option Nat) (g n : Nat) : MI.le (.buf b g n) .gone
  | goneM (b : Nat) : MI.le (.map b) .gone
  | buf (b : Option Nat) (g n : Nat) (b' : Option Nat) (g' n' : Nat) : g < g' → MI.le (.buf b g n) (.buf b' g' n')

theorem MI.le.trans {a b c : MI} (h : MI.le a b) (k : MI.le b c) : MI.le a c := by
  cases h with
  | refl => exact k
  | goneB => cases k <;> exact .goneB _ _ _
  | goneM => cases k <;> exact .goneM _
  | buf b g n b' g' n' hg => cases k with
    | refl => exact .buf _ _ _ _ _ _ hg
    | goneB => exact .goneB _ _ _
    | buf _ _ _ b2 g2 n2 h2 => exact .buf _ _ _ _ _ _ (Nat.lt_trans hg h2)

/-- Places are known as before, or not at all any more. -/
def Above (μ μ' : List MI) : Prop := ∀ (i : Nat) (m : MI), μ[i]? = some m → ∃ m', μ'[i]? = some m' ∧ MI.le m m'

theorem Above.refl (μ : List MI) : Above μ μ := fun _ m h => ⟨m, h, .refl m⟩
theorem Above.trans {a b c : List MI} (h : Above a b) (k : Above b c) : Above a c := fun i m hm => by
  obtain ⟨m', h1, h2⟩ := h i m hm
  obtain ⟨m'', k1, k2⟩ := k i m' h1
  exact ⟨m'', k1, h2.trans k2⟩

theorem Above.at {M M' : Nat → Prop} {n0 : Nat} {μ μ' : List MI} (h : Above μ μ') {r : Rf} {m : MI} (hm : Ctx.at ⟨M, n0, μ⟩ r = some m) : ∃ m', Ctx.at ⟨M', n0, μ'⟩ r = some m' ∧ MI.le m m' := by
  cases r with
  | l k => exact h _ _ hm
  | b id =>
    simp only [Ctx.at] at hm ⊢
    split at hm
    · rename_i hlt; rw [if_pos hlt]; exact h _ _ hm
    · cases hm

theorem VA.mono {M M' : Nat → Prop} {n0 : Nat} {μ μ' : List MI} {w w' : World} (hs : Stays M w M' w') (ha : Above μ μ') {v : Value} {a : AV} (h : VA ⟨M, n0, μ⟩ w v a) : VA ⟨M', n0, μ'⟩ w' v a := by
  induction h with
  | p v e h => exact .p v e (h.mono hs)
  | ref r off b h =>
    obtain ⟨m', h1, h2⟩ := ha.at (M' := M') h
    cases h2 with
    | refl => exact .ref r off b h1
  | view0 r g sz n h =>
    obtain ⟨m', h1, h2⟩ := ha.at (M' := M') h
    cases h2 with
    | refl => exact .view0 r g sz n h1
    | goneB => exact .viewGone _ r g sz 0 h1 rfl
    | buf _ _ _ b' g' n' hg => exact .viewOld _ r g sz 0 b' g' n' h1 hg rfl
  | view r g sz n b len cap h hl hc =>
    obtain ⟨m', h1, h2⟩ := ha.at (M' := M') h
    cases h2 with
    | refl => exact .view r g sz n b len cap h1 hl hc
    | goneB => exact .viewGone _ r g sz len h1 rfl
    | buf _ _ _ b' g' n' hg => exact .viewOld _ r g sz len b' g' n' h1 hg rfl
  | viewOld v r g sz len b g' n h hg h0 =>
    obtain ⟨m', h1, h2⟩ := ha.at (M' := M') h
    cases h2 with
    | refl => exact .viewOld v r g sz len b g' n h1 hg h0
    | goneB => exact .viewGone _ r g sz len h1 h0
    | buf _ _ _ b2 g2 n2 h2 => exact .viewOld _ r g sz len b2 g2 n2 h1 (Nat.lt_trans hg h2) h0
  | viewGone v r g sz len h h0 =>
    obtain ⟨m', h1, h2⟩ := ha.at (M' := M') h
    cases h2 <;> exact .viewGone _ r g sz len h1 h0
  | elt r g sz n b idx off h =>
    obtain ⟨m', h1, h2⟩ := ha.at (M' := M') h
    cases h2 with
    | refl => exact .elt r g sz n b idx off h1
    | goneB => exact .eltGone _ r g sz idx off h1 rfl
    | buf _ _ _ b' g' n' hg => exact .eltOld _ r g sz idx off b' g' n' h1 hg rfl
  | eltOld v r g sz idx off b g' n h hg h0 =>
    obtain ⟨m', h1, h2⟩ := ha.at (M' := M') h
    cases h2 with
    | refl => exact .eltOld v r g sz idx off b g' n h1 hg h0
    | goneB => exact .eltGone _ r g sz idx off h1 h0
    | buf _ _ _ b2 g2 n2 h2 => exact .eltOld _ r g sz idx off b2 g2 n2 h1 (Nat.lt_trans hg h2) h0
  | eltGone v r g sz idx off h h0 =>
    obtain ⟨m', h1, h2⟩ := ha.at (M' := M') h
    cases h2 <;> exact .eltGone _ r g sz idx off h1 h0
  | mapr r b h =>
    obtain ⟨m', h1, h2⟩ := ha.at (M' := M') h
    cases h2 with
    | refl => exact .mapr r b h1
    | goneM => exact .maprGone _ r h1 rfl
  | maprGone v r h h0 =>
    obtain ⟨m', h1, h2⟩ := ha.at (M' := M') h
    cases h2 <;> exact .maprGone _ r h1 h0
  | clos f xs ys as bs h1 h2 _ _ ih1 ih2 => exact .clos f xs ys as bs h1 h2 ih1 ih2
  | agg xs cs h1 _ h3 ih => exact .agg xs cs h1 ih h3
  | tup xs cs h1 _ ih => exact .tup xs cs h1 ih

/-- Is an abstract value that of one cell? -/
def AV.scalar : AV → Bool
  | .p v => v.scalar
  | .agg _ | .tup _ => false
  | _ => true

theorem VA.oneCell {Γ : Ctx} {w : World} {v : Value} {a : AV} (h : VA Γ w v a) (hs : a.scalar = true) : v.oneCell' = true := by
  cases h with
  | p v e h => exact h.oneCell hs
  | viewOld _ _ _ _ _ _ _ _ _ _ h0 => exact h0
  | viewGone _ _ _ _ _ _ h0 => exact h0
  | eltOld _ _ _ _ _ _ _ _ _ _ _ h0 => exact h0
  | eltGone _ _ _ _ _ _ _ h0 => exact h0
  | maprGone _ _ _ h0 => exact h0
  | agg => cases hs
  | tup => cases hs
  | _ => rfl

/-- The blocks of objects. -/
def blocks (μ : List MI) (b : Nat) : Prop := ∃ (i : Nat) (m : MI), μ[i]? = some m ∧ m.block? = some b

def codeOf : Exit → Code
  | .exit id => .exit id
  | .goto l => .goto l
  | _ => .ret
def LSt.state : LSt → LoopState
  | .ready => .ready
  | .busy => .busy
  | .done _ => .done
  | .over => .exhausted
def LSt.pend (p : Option Code) : LSt → Prop
  | .ready => p = none
  | .busy => p = none
  | .done e => p = some (codeOf e)
  | .over => True

/-- An object lies where it is said to lie. -/
inductive ObOk (Γ : Ctx) (w : World) : MI → Ob → Prop
  | cells (b : Nat) (xs : Array Value) (t : TypeId) (cs : List AV) : w.heap[b]? = some (.cells xs t (0, 0)) → xs.size = cs.length → (∀ (j : Nat) (x : Value) (c : AV), xs[j]? = some x → cs[j]? = some c → VA Γ w x c ∧ x.oneCell' = true) → ObOk Γ w (.cells b) (.cells cs)
  | buf0 (g sz n : Nat) : ObOk Γ w (.buf none g n) (.buf g sz [])
  | buf (b g n sz : Nat) (xs : Array Value) (t : TypeId) (es : List PV) (c : Nat → Value) : w.heap[b]? = some (.cells xs t (0, 0)) → xs.size = n → es.length * sz ≤ n →
      (∀ (j : Nat) (e : PV), es[j]? = some e → (c j).cells.size = sz ∧ (∀ (i : Nat) (x : Value), (c j).cells[i]? = some x → x.oneCell' = true ∧ xs[j * sz + i]? = some x) ∧ VP Γ.M w (c j) e) → ObOk Γ w (.buf (some b) g n) (.buf g sz es)
  | map (b clock : Nat) (xs : Array MapEntry) (es : List (PV × PV)) : w.heap[b]? = some (.map xs clock) → xs.size = es.length →
      (∀ (j : Nat) (x : MapEntry) (e : PV × PV), xs[j]? = some x → es[j]? = some e → VP Γ.M w x.key e.1 ∧ VP Γ.M w x.val e.2) → ObOk Γ w (.map b) (.map es)
  | loop (l : Nat) (r : Loop) (ks : List Nat) (cs : List AV) (st : LSt) (p : Option Code) : w.heap[l]? = some (.loop { r with state := st.state, pending := p }) → st.pend p → ks.length = cs.length → (∀ (j t : Nat) (c : AV), ks[j]? = some t → cs[j]? = some c → VA Γ w (r.tmps.getD t undef) c) →
      ObOk Γ w (.cells l) (.loop l r ks cs st)
  | gone : ObOk Γ w .gone .gone

structure Inv (μ : List MI) (w : World) (base loc : List Ob) : Prop where
  len : μ.length = base.length + loc.length
  apart : ∀ (i j : Nat) (m m' : MI) (b : Nat), μ[i]? = some m → μ[j]? = some m' → m.block? = some b → m'.block? = some b → i = j
  bases : ∀ (i : Nat) (o : Ob), base[i]? = some o → ∃ m, μ[i]? = some m ∧ ObOk ⟨blocks μ, base.length, μ.take base.length⟩ w m o
  locs : ∀ (k : Nat) (o : Ob), loc[k]? = some o → ∃ m, μ[base.length + k]? = some m ∧ ObOk ⟨blocks μ, base.length, μ⟩ w m o

/-- From a world to a later one. -/
structure Le (μ : List MI) (w : World) (μ' : List MI) (w' : World) : Prop where
  os : w'.os = w.os
  tape : w'.tape = w.tape
  output : w'.output = w.output
  above : Above μ μ'
  stays : Stays (blocks μ) w (blocks μ') w'

theorem Le.refl (μ : List MI) (w : World) : Le μ w μ w := ⟨rfl, rfl, rfl, .refl μ, .refl _ w⟩
theorem Le.trans {μ μ' μ'' : List MI} {w w' w'' : World} (h : Le μ w μ' w') (k : Le μ' w' μ'' w'') : Le μ w μ'' w'' :=
  ⟨k.os.trans h.os, k.tape.trans h.tape, k.output.trans h.output, h.above.trans k.above, h.stays.trans k.stays⟩

/-- The values of two rows stand for one another. -/
def VAs (Γ : Ctx) (w : World) (xs : Array Value) (as : List AV) : Prop := xs.size = as.length ∧ ∀ (j : Nat) (x : Value) (a : AV), xs[j]? = some x → as[j]? = some a → VA Γ w x a

/-- THE CONTRACT OF A CALL: on abstract values and objects. -/
def callA (P : Program) (f : FuncId) (args : List AV) (H : List Ob) (Q : AV → List Ob → Prop) : Prop :=
  ∀ (μ : List MI) (w : World) (xs : Array Value), Inv μ w H [] → VAs ⟨blocks μ, H.length, μ⟩ w xs args →
    Calls P f xs w fun e w' => ∃ (v : Value) (r : AV) (H' : List Ob) (μ' : List MI), e = .returned v ∧ Q r H' ∧ Inv μ' w' H' [] ∧ VA ⟨blocks μ', H'.length, μ'⟩ w' v r ∧ Le μ w μ' w'

theorem Calls.mono' {P : Program} {f : FuncId} {args : Array Value} {w : World} {R R' : Ending → World → Prop} (h : Calls P f args w R) (k : ∀ e w, R e w → R' e w) : Calls P f args w R' :=
  Calls.mono h k

theorem callA.mono {P : Program} {f : FuncId} {args : List AV} {H : List Ob} {Q Q' : AV → List Ob → Prop} (h : callA P f args H Q) (k : ∀ r H', Q r H' → Q' r H') : callA P f args H Q' := by
  intro μ w xs hi hx
  refine Calls.mono' (h μ w xs hi hx) ?_
  rintro e w' ⟨v, r, H', μ', h1, h2, h3⟩
  exact ⟨v, r, H', μ', h1, k _ _ h2, h3⟩

/-- A call that leaves all objects alone and answers one thing. -/
def pureF (P : Program) (f : FuncId) (args : List AV) (r : AV) : Prop := ∀ H, callA P f args H fun r' H' => r' = r ∧ H' = H

end Go.Proofs.Ytkjidklifmcpnaa.AD
