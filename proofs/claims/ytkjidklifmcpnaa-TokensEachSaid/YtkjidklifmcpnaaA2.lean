/- A plainer machine, two: operations with their types read off, and what is to be shown for a piece of code to come to an end as wanted. -/
import Derived.Test.YtkjidklifmcpnaaA1
namespace Go.Proofs.Ytkjidklifmcpnaa.AD
set_option linter.unusedVariables false

inductive Rv where
  | t (n : Nat)
  | v (a : AV)
  deriving Inhabited

/-- What a cell holds. -/
inductive SK where
  | int (k : IntKind)
  | str
  | bool
  deriving Inhabited, DecidableEq

inductive IOp where
  | mv (x : Rv)
  | mvS (x : Rv)
  | pick (c a b : Rv)
  | bin (op : BinOp) (x y : Rv)
  | eqb (neg : Bool) (x y : Rv)
  | eqs (neg : Bool) (ks : List SK) (x y : Rv)
  | isNil (neg : Bool) (x : Rv)
  | not (x : Rv)
  | neg (x : Rv)
  | conv (k : IntKind) (x : Rv)
  | toBytes (x : Rv)
  | ofBytes (x : Rv)
  | alloc (zero : List PV)
  | box (x : Rv)
  | build (zero : List PV) (parts : List (Nat × Nat × Rv))
  | lit (own : Bool) (sz : Nat) (zero : PV) (len : Nat) (parts : List (Nat × Rv))
  | load (n : Option Nat) (a : Rv)
  | store (n : Nat) (a x : Rv)
  | nilck (x : Rv)
  | fieldA (off : Nat) (a : Rv)
  | elemA (sz : Nat) (x i : Rv)
  | arrA (sz len : Nat) (x i : Rv)
  | fld (off : Nat) (n : Option Nat) (x : Rv)
  | idxA (sz len : Nat) (n : Option Nat) (x i : Rv)
  | idxS (x i : Rv)
  | cutS (x : Rv) (lo hi : Option Rv)
  | cutL (sz : Nat) (x : Rv) (lo hi mx : Option Rv)
  | len (x : Rv)
  | lenS (x : Rv)
  | app (sz bytes : Nat) (x y : Rv)
  | appS (x y : Rv)
  | max2 (x y : Rv)
  | min2 (x y : Rv)
  | mkfn (f : Fn) (first cap : List Rv)
  | call (f : Nat) (args : List Rv)
  | callv (x : Rv) (args : List Rv)
  | ext (x : Rv) (i : Nat)
  | mkmap
  | look (kk : Option IntKind) (zero : PV) (ok : Bool) (x i : Rv)
  | mset (kk : Option IntKind) (x i v : Rv)
  | mk (sz bytes : Nat) (zero : PV) (len cap : Rv)
  | xcall (f : Nat) (args : List Rv)
  | callE (f : Nat) (args : List Rv)
  | nilb (sz : Nat)
  | bad
  deriving Inhabited

structure IO_ where
  dst : Option Nat
  guard : Option (Nat × Bool)
  split : Bool
  op : IOp
  deriving Inhabited

inductive IC where
  | skip
  | ops (l : List IO_)
  | dops (l : List IO_)
  | eops (l : List IO_) (bs : List Nat)
  | seq (a b : IC)
  | cond (c : Rv) (a b : IC)
  | cut (ks : List Nat) (a b : IC)
  | block (id : Nat) (a : IC)
  | loop (ks : List Nat) (a : IC)
  | exit (id : Nat)
  | ret
  | bad
  | scope (a : IC)
  | lab (l : Nat) (x a : IC)
  | label (l : Nat)
  | goto (l : Nat) (ks : List Nat)
  | rangeF (ks : List Nat) (x : Rv) (ps : List Nat) (a b : IC)
  deriving Inhabited

/-- Without the marks. -/
def IC.bare : IC → IC
  | .seq a b => .seq a.bare b.bare
  | .cut _ a b => .seq a.bare b.bare
  | .cond c a b => .cond c a.bare b.bare
  | .block id a => .block id a.bare
  | .loop _ a => .loop [] a.bare
  | .scope a => .scope a.bare
  | .lab l x a => .lab l x.bare a.bare
  | .goto l _ => .goto l []
  | .rangeF _ x ps a b => .rangeF [] x ps a.bare b.bare
  | c => c
/-- No range over a function in it. -/
def IC.noR : IC → Bool
  | .seq a b | .cut _ a b | .cond _ a b | .lab _ a b => a.noR && b.noR
  | .block _ a | .loop _ a | .scope a => a.noR
  | .rangeF .. => false
  | _ => true

abbrev FR := List (Nat × AV)

/-! ### reading and writing, one behind the other -/

def getK : FR → Nat → (AV → Prop) → Prop
  | [], _, k => k (.p .undef)
  | (u, x) :: r, t, k => bif Nat.beq u t then k x else getK r t k

def setK : FR → Nat → AV → (FR → Prop) → Prop
  | [], t, v, k => k [(t, v)]
  | (u, x) :: r, t, v, k => bif Nat.beq u t then k ((u, v) :: r) else setK r t v fun r' => k ((u, x) :: r')

/-- Some places alone. -/
def projK : List Nat → FR → (FR → Prop) → Prop
  | [], _, k => k []
  | t :: r, fr, k => getK fr t fun v => projK r fr fun fr' => k ((t, v) :: fr')

def evK (x : Rv) (fr : FR) (k : AV → Prop) : Prop :=
  match x with
  | .t n => getK fr n k
  | .v a => k a

def evsK : List Rv → FR → (List AV → Prop) → Prop
  | [], _, k => k []
  | x :: r, fr, k => evK x fr fun a => evsK r fr fun as => k (a :: as)

def evOK (x : Option Rv) (fr : FR) (k : Option AV → Prop) : Prop :=
  match x with
  | none => k none
  | some x => evK x fr fun a => k (some a)

def dropK {α : Type} : Nat → List α → (List α → Prop) → Prop
  | 0, l, k => k l
  | n + 1, _ :: r, k => dropK n r k
  | _ + 1, [], _ => False

def takeK {α : Type} : Nat → List α → (List α → Prop) → Prop
  | 0, _, k => k []
  | n + 1, x :: r, k => takeK n r fun r' => k (x :: r')
  | _ + 1, [], _ => False

def atK {α : Type} : Nat → List α → (α → Prop) → Prop
  | 0, x :: _, k => k x
  | n + 1, _ :: r, k => atK n r k
  | _, [], _ => False

def setAtK {α : Type} : Nat → List α → α → (List α → Prop) → Prop
  | 0, _ :: r, v, k => k (v :: r)
  | n + 1, x :: r, v, k => setAtK n r v fun r' => k (x :: r')
  | _, [], _, _ => False

def spliceK {α : Type} : Nat → List α → List α → (List α → Prop) → Prop
  | n + 1, vs, x :: r, k => spliceK n vs r fun r' => k (x :: r')
  | 0, v :: vs, _ :: r, k => spliceK 0 vs r fun r' => k (v :: r')
  | 0, [], r, k => k r
  | _, _, [], _ => False

def pushK {α : Type} : List α → α → (Nat → List α → Prop) → Prop
  | [], v, k => k 0 [v]
  | x :: r, v, k => pushK r v fun n r' => k (n + 1) (x :: r')

def allPK : List AV → (List PV → Prop) → Prop → Prop
  | [], k, _ => k []
  | .p c :: r, k, e => allPK r (fun cs => k (c :: cs)) e
  | _ :: _, _, e => e

def mkAggK (cs : List AV) (k : AV → Prop) : Prop := allPK cs (fun ps => k (.p (.agg ps))) (k (.agg cs))
def mkTupK (cs : List AV) (k : AV → Prop) : Prop := allPK cs (fun ps => k (.p (.tup ps))) (k (.tup cs))

def upPK : List PV → (List AV → Prop) → Prop
  | [], k => k []
  | c :: r, k => upPK r fun as => k (.p c :: as)

/-- The cells of a value, each of which is one cell. -/
def scalarsK : List AV → (List AV → Prop) → Prop
  | [], k => k []
  | a :: r, k => match a.scalar with
    | true => scalarsK r fun r' => k (a :: r')
    | false => False

def cellsK (v : AV) (k : List AV → Prop) : Prop :=
  match v with
  | .p (.agg cs) => upPK cs fun as => scalarsK as k
  | .agg cs => scalarsK cs k
  | v => scalarsK [v] k

def cellsPK (e : PV) (k : List PV → Prop) : Prop :=
  match e with
  | .agg cs => k cs
  | .undef => False
  | .tup _ => False
  | e => k [e]

def headK {α : Type} (l : List α) (k : α → Prop) : Prop :=
  match l with
  | x :: _ => k x
  | [] => False

def readPK (n : Option Nat) (cs : List PV) (k : AV → Prop) : Prop :=
  match n with
  | none => headK cs fun c => k (.p c)
  | some n => takeK n cs fun l => k (.p (.agg l))

def readAK (n : Option Nat) (cs : List AV) (k : AV → Prop) : Prop :=
  match n with
  | none => headK cs k
  | some n => takeK n cs fun l => mkAggK l k

def AV.noL : AV → Bool
  | .p _ => true
  | .ref (.b _) _ | .view (.b _) _ _ _ | .elt (.b _) _ _ _ _ | .mapr (.b _) => true
  | _ => false

def noLs : List AV → Bool
  | [] => true
  | a :: r => a.noL && noLs r

/-- None of the call's own objects from a number on. -/
def Rf.lowL (n : Nat) : Rf → Bool
  | .l k => Nat.blt k n
  | .b _ => true
mutual
def AV.lowL (n : Nat) : AV → Bool
  | .p _ => true
  | .ref r _ => r.lowL n
  | .view r _ _ _ => r.lowL n
  | .elt r _ _ _ _ => r.lowL n
  | .mapr r => r.lowL n
  | .clos _ as bs => AV.lowsL n as && AV.lowsL n bs
  | .agg cs => AV.lowsL n cs
  | .tup cs => AV.lowsL n cs
def AV.lowsL (n : Nat) : List AV → Bool
  | [] => true
  | a :: r => AV.lowL n a && AV.lowsL n r
end
def frLowL (n : Nat) : FR → Bool
  | [] => true
  | (_, a) :: r => a.lowL n && frLowL n r
def obsLowL (n : Nat) : List Ob → Bool
  | [] => true
  | .cells cs :: r => AV.lowsL n cs && obsLowL n r
  | .loop _ _ _ cs _ :: r => AV.lowsL n cs && obsLowL n r
  | _ :: r => obsLowL n r

/-- From its own point of view to everybody's. -/
def Rf.close (n0 : Nat) : Rf → Rf
  | .l k => .b (n0 + k)
  | .b id => .b id
mutual
def AV.close (n0 : Nat) : AV → AV
  | .p v => .p v
  | .ref r o => .ref (r.close n0) o
  | .view r g sz len => .view (r.close n0) g sz len
  | .elt r g sz i o => .elt (r.close n0) g sz i o
  | .mapr r => .mapr (r.close n0)
  | .clos f as bs => .clos f (AV.closes n0 as) (AV.closes n0 bs)
  | .agg cs => .agg (AV.closes n0 cs)
  | .tup cs => .tup (AV.closes n0 cs)
def AV.closes (n0 : Nat) : List AV → List AV
  | [] => []
  | a :: r => AV.close n0 a :: AV.closes n0 r
end
theorem closes_map (n0 : Nat) : ∀ (l : List AV), AV.closes n0 l = l.map (AV.close n0)
  | [] => by simp [AV.closes]
  | a :: r => by simp [AV.closes, closes_map n0 r]
def Ob.close (n0 : Nat) : Ob → Ob
  | .cells cs => .cells (AV.closes n0 cs)
  | .loop l r ks cs st => .loop l r ks (AV.closes n0 cs) st
  | o => o

def flat (ba lo : List Ob) : List Ob := ba ++ lo.map (Ob.close ba.length)

/-- Nothing of the call's own in it, and no number beyond the elder ones. -/
def Rf.low (n0 : Nat) : Rf → Prop
  | .l _ => True
  | .b id => id < n0
inductive AV.Low (n0 : Nat) : AV → Prop
  | p (v : PV) : AV.Low n0 (.p v)
  | ref (r : Rf) (o : Nat) : r.low n0 → AV.Low n0 (.ref r o)
  | view (r : Rf) (g sz len : Nat) : r.low n0 → AV.Low n0 (.view r g sz len)
  | elt (r : Rf) (g sz i o : Nat) : r.low n0 → AV.Low n0 (.elt r g sz i o)
  | mapr (r : Rf) : r.low n0 → AV.Low n0 (.mapr r)
  | clos (f : Fn) (as bs : List AV) : (∀ a, a ∈ as → AV.Low n0 a) → (∀ a, a ∈ bs → AV.Low n0 a) → AV.Low n0 (.clos f as bs)
  | agg (cs : List AV) : (∀ a, a ∈ cs → AV.Low n0 a) → AV.Low n0 (.agg cs)
  | tup (cs : List AV) : (∀ a, a ∈ cs → AV.Low n0 a) → AV.Low n0 (.tup cs)
def Ob.Low (n0 : Nat) : Ob → Prop
  | .cells cs => ∀ a, a ∈ cs → AV.Low n0 a
  | .loop _ _ _ cs _ => ∀ a, a ∈ cs → AV.Low n0 a
  | _ => True

/-- Nothing in it but elder objects. -/
def Ob.LowB (n0 : Nat) : Ob → Prop
  | .cells cs => ∀ a, a ∈ cs → AV.Low n0 a ∧ a.lowL 0 = true
  | .loop _ _ _ cs _ => ∀ a, a ∈ cs → AV.Low n0 a ∧ a.lowL 0 = true
  | _ => True

/-- What is to be shown of a call. -/
structure CallVC (P : Program) (f : Nat) (args : List AV) (ba lo : List Ob) (K : AV → List Ob → List Ob → Prop) : Prop where
  out : ∀ (μ : List MI) (w : World) (xs : Array Value), Inv μ w ba lo → VAs ⟨blocks μ, ba.length, μ⟩ w xs args →
    Calls P f xs w fun e w' => ∃ v r μ' ba' lo', e = .returned v ∧ VA ⟨blocks μ', ba.length, μ'⟩ w' v r ∧ Inv μ' w' ba' lo' ∧ Le μ w μ' w' ∧ ba'.length = ba.length ∧ K r ba' lo'

/-- The same, told from everybody's side. -/
structure CallX (P : Program) (f : Nat) (args : List AV) (ba lo : List Ob) (K : AV → List Ob → List Ob → Prop) : Prop where
  out : callA P f (AV.closes ba.length args) (flat ba lo) fun r H' => ∃ (r' : AV) (base' loc' : List Ob), r = r'.close ba.length ∧ r'.Low ba.length ∧
    H' = base' ++ loc'.map (Ob.close ba.length) ∧ base'.length = ba.length ∧ (∀ o, o ∈ base' → o ∈ ba ∨ o.LowB ba.length) ∧ (∀ o, o ∈ loc' → o ∈ lo ∨ o.Low ba.length) ∧ K r' base' loc'

/-- The same where the order is open: the call leaves all objects alone, and its answer is told. -/
structure CallD (P : Program) (f : Nat) (args : List AV) (ba lo : List Ob) (K : AV → List Ob → List Ob → Prop) : Prop where
  out : ∃ e : PV, (∀ X : List Ob, callA P f (AV.closes ba.length args) (flat ba lo ++ X) (fun r H' => r = .p e ∧ H' = flat ba lo ++ X)) ∧ K (.p e) ba lo

/-- The same where the call turns objects: all that it leaves behind is told. -/
structure CallE (P : Program) (f : Nat) (args : List AV) (ba lo : List Ob) (K : AV → List Ob → List Ob → Prop) : Prop where
  out : ∃ (r : AV) (ba' lo' : List Ob), CallVC P f args ba lo (fun r' b l => r' = r ∧ b = ba' ∧ l = lo') ∧ K r ba' lo'

/-- The same of yield: what a round of the loop is to do. -/
structure YieldVC (P : Program) (l : Nat) (args : List AV) (ba lo : List Ob) (K : AV → List Ob → List Ob → Prop) : Prop where
  out : ∀ (n : Nat) (μ : List MI) (w : World) (xs : Array Value), Inv μ w ba lo → VAs ⟨blocks μ, ba.length, μ⟩ w xs args →
    ∃ fn tmps assign body, (Instr.yield l xs).run P w = .ok (.round l fn tmps assign body) w ∧ RoundIn Fence.wide n P l fn tmps assign body w fun e w' => ∃ v r μ' ba' lo', e = .returned v ∧ VA ⟨blocks μ', ba.length, μ'⟩ w' v r ∧ Inv μ' w' ba' lo' ∧ Le μ w μ' w' ∧ ba'.length = ba.length ∧ K r ba' lo'

/-- A function of the machine's own. -/
structure XOk (P : Program) (f : Nat) (ps : List PV) (e : PV) : Prop where
  out : ∀ (M : Nat → Prop) (w : World) (xs : Array Value), xs.size = ps.length → (∀ (j : Nat) (x : Value) (p : PV), xs[j]? = some x → ps[j]? = some p → VP M w x p) → ∃ c, (callFunc f xs).run P w = .ok (.value c) w ∧ VP M w c e

def callK (P : Program) (d : Bool) (f : Nat) (args : List AV) (ba lo : List Ob) (K : AV → List Ob → List Ob → Prop) : Prop :=
  match d with
  | true => CallD P f args ba lo K
  | false => CallVC P f args ba lo K

/-- Two ways on. -/
structure splitB (b : Bool) (K : Bool → Prop) : Prop where
  out : K b

def kindK (j k : IntKind) (K : Prop) : Prop :=
  match j, k with
  | .i8, .i8 | .i16, .i16 | .i32, .i32 | .i64, .i64 | .u8, .u8 | .u16, .u16 | .u32, .u32 | .u64, .u64 => K
  | _, _ => False

def binI (op : BinOp) (k : IntKind) (a b : Int) (K : AV → Prop) : Prop :=
  match op with
  | .add => K (.p (.int k (k.wrap (a + b))))
  | .sub => K (.p (.int k (k.wrap (a - b))))
  | .mul => K (.p (.int k (k.wrap (a * b))))
  | .quo => b ≠ 0 ∧ K (.p (.int k (k.wrap (a.tdiv b))))
  | .rem => b ≠ 0 ∧ K (.p (.int k (a.tmod b)))
  | .and => K (.p (.int k (k.wrap (BitVec.ofInt k.bits a &&& BitVec.ofInt k.bits b).toNat)))
  | .or => K (.p (.int k (k.wrap (BitVec.ofInt k.bits a ||| BitVec.ofInt k.bits b).toNat)))
  | .xor => K (.p (.int k (k.wrap (BitVec.ofInt k.bits a ^^^ BitVec.ofInt k.bits b).toNat)))
  | .andNot => K (.p (.int k (k.wrap (BitVec.ofInt k.bits a &&& ~~~ BitVec.ofInt k.bits b).toNat)))
  | .eql => K (.p (.bool (a == b)))
  | .neq => K (.p (.bool (a != b)))
  | .lss => K (.p (.bool (decide (a < b))))
  | .leq => K (.p (.bool (decide (a ≤ b))))
  | .gtr => K (.p (.bool (decide (a > b))))
  | .geq => K (.p (.bool (decide (a ≥ b))))
  | .shl => 0 ≤ b ∧ K (.p (.int k (k.wrap (a * 2 ^ (min b.toNat k.bits)))))
  | .shr => 0 ≤ b ∧ K (.p (.int k (a.fdiv (2 ^ (min b.toNat k.bits)))))

def strLt (a b : ByteArray) : Bool := Op.bytesLess a.toList b.toList

def binS (op : BinOp) (a b : ByteArray) (K : AV → Prop) : Prop :=
  match op with
  | .add => ((a.size + b.size : Nat) : Int) ≤ 9223372036854775807 ∧ K (.p (.str (a ++ b)))
  | .eql => K (.p (.bool (a.toList == b.toList)))
  | .neq => K (.p (.bool (!(a.toList == b.toList))))
  | .lss => K (.p (.bool (strLt a b)))
  | .leq => K (.p (.bool (strLt a b || a.toList == b.toList)))
  | .gtr => K (.p (.bool (!(strLt a b || a.toList == b.toList))))
  | .geq => K (.p (.bool (!(strLt a b))))
  | _ => False

def isShift : BinOp → Bool
  | .shl | .shr => true
  | _ => false

def binK (op : BinOp) (x y : AV) (K : AV → Prop) : Prop :=
  match x, y with
  | .p (.int k a), .p (.int j b) => bif isShift op then binI op k a b K else kindK k j (binI op k a b K)
  | .p (.str a), .p (.str b) => binS op a b K
  | _, _ => False

/-- Two rows of cells of whole numbers, texts and bools. -/
def eqCells : List SK → List PV → List PV → Option Bool
  | [], [], [] => some true
  | .int i :: ks, .int j a :: r, .int k b :: r' => if i = j ∧ i = k then (eqCells ks r r').map (a == b && ·) else none
  | .str :: ks, .str a :: r, .str b :: r' => (eqCells ks r r').map (a.toList == b.toList && ·)
  | .bool :: ks, .bool a :: r, .bool b :: r' => (eqCells ks r r').map (a == b && ·)
  | _, _, _ => none

def byteInts (s : ByteArray) : List PV := s.data.toList.map fun b => .int .u8 b.toNat
def intBytes : List PV → Option (List UInt8)
  | [] => some []
  | .int .u8 n :: r => (intBytes r).map (UInt8.ofNat n.toNat :: ·)
  | _ => none

/-- As much as may be appended to. -/
def room (n bytes : Nat) : Prop := n * bytes ≤ 70368744177664

/-- What a list holds. -/
def contK (sz : Nat) (y : AV) (ba lo : List Ob) (k : List PV → Prop) : Prop :=
  match y with
  | .p .nils => k []
  | .p (.list sz' ys) => sz = sz' ∧ k ys
  | .p (.lent sz' ys _) => sz = sz' ∧ k ys
  | .view (.l m) g sz' len => atK m lo fun o => match o with
    | .buf g' sz'' es => (sz = sz' ∧ sz = sz'' ∧ g = g' ∧ len ≤ es.length) ∧ ∃ ys, es.take len = ys ∧ k ys
    | _ => False
  | .view (.b id) g sz' len => atK id ba fun o => match o with
    | .buf g' sz'' es => (sz = sz' ∧ sz = sz'' ∧ g = g' ∧ len ≤ es.length) ∧ ∃ ys, es.take len = ys ∧ k ys
    | _ => False
  | _ => False

def appK (sz bytes : Nat) (x : AV) (ys : List PV) (ba lo : List Ob) (K : AV → List Ob → List Ob → Prop) : Prop :=
  match x with
  | .p .nils => room ys.length bytes ∧ pushK lo (.buf 0 sz ys) fun m loc' => K (.view (.l m) 0 sz ys.length) ba loc'
  | .view (.l m) g sz' len => atK m lo fun o => match o with
    | .buf g' sz'' es => (sz = sz' ∧ sz = sz'' ∧ g = g' ∧ len ≤ es.length) ∧ room (len + ys.length) bytes ∧ ∃ zs, es.take len ++ ys = zs ∧ setAtK m lo (.buf (g + 1) sz zs) fun loc' => K (.view (.l m) (g + 1) sz (len + ys.length)) ba loc'
    | _ => False
  | .view (.b id) g sz' len => atK id ba fun o => match o with
    | .buf g' sz'' es => (sz = sz' ∧ sz = sz'' ∧ g = g' ∧ len ≤ es.length) ∧ room (len + ys.length) bytes ∧ ∃ zs, es.take len ++ ys = zs ∧ setAtK id ba (.buf (g + 1) sz zs) fun ba' => K (.view (.b id) (g + 1) sz (len + ys.length)) ba' lo
    | _ => False
  | _ => False

def fillK : List (Nat × Nat × AV) → List AV → (List AV → Prop) → Prop
  | [], cs, k => k cs
  | (off, n, v) :: r, cs, k => cellsK v fun news => bif Nat.beq news.length n then spliceK off news cs fun cs' => fillK r cs' k else False

def partsK : List (Nat × Nat × Rv) → FR → (List (Nat × Nat × AV) → Prop) → Prop
  | [], _, k => k []
  | (o, n, x) :: r, fr, k => evK x fr fun a => partsK r fr fun as => k ((o, n, a) :: as)

def repK {α : Type} : Nat → α → (List α → Prop) → Prop
  | 0, _, k => k []
  | n + 1, x, k => repK n x fun r => k (x :: r)

def litK (sz : Nat) : List (Nat × Rv) → FR → List PV → (List PV → Prop) → Prop
  | [], _, es, k => k es
  | (i, x) :: r, fr, es, k => evK x fr fun a => match a with
    | .p e => cellsPK e fun cs => bif Nat.beq cs.length sz then setAtK i es e fun es' => litK sz r fr es' k else False
    | _ => False

/-- Can a function be entered? -/
def enters (P : Program) (f : Nat) : Bool :=
  match P.funcs[f]? with
  | some fn => fn.body.isSome && !(fn.name == "runtime.NumGoroutine")
  | none => false

/-- Is a list of the call's own what it was when it was looked at? -/
def aliveE (r : Rf) (g : Nat) (ba lo : List Ob) : Prop :=
  match r with
  | .l m => atK m lo fun o => match o with
    | .buf g' _ es => g = g' ∧ es ≠ []
    | _ => False
  | .b id => atK id ba fun o => match o with
    | .buf g' _ es => g = g' ∧ es ≠ []
    | _ => False
def aliveV (r : Rf) (g : Nat) (ba lo : List Ob) : Prop :=
  match r with
  | .l m => atK m lo fun o => match o with
    | .buf g' _ _ => g = g'
    | _ => False
  | .b id => atK id ba fun o => match o with
    | .buf g' _ _ => g = g'
    | _ => False

/-- Is this a key of such a map (of whole numbers, or of texts)? -/
def keyOk (kk : Option IntKind) (k : PV) : Bool :=
  match kk, k with
  | none, .str _ => true
  | some j, .int i _ => i == j
  | _, _ => false
def sameKey (a b : PV) : Option Bool :=
  match a, b with
  | .str a, .str b => some (decide (a = b))
  | .int _ a, .int _ b => some (decide (a = b))
  | _, _ => none
/-- What stands at a key. -/
def mfind (kk : Option IntKind) (k : PV) : List (PV × PV) → Option (Option PV)
  | [] => some none
  | (c, v) :: r => match keyOk kk c, sameKey k c with
    | true, some true => some (some v)
    | true, some false => mfind kk k r
    | _, _ => none
def mput (kk : Option IntKind) (k v : PV) : List (PV × PV) → Option (List (PV × PV))
  | [] => some [(k, v)]
  | (c, u) :: r => match keyOk kk c, sameKey k c with
    | true, some true => some ((k, v) :: r)
    | true, some false => (mput kk k v r).map ((c, u) :: ·)
    | _, _ => none
def lookV (zero : PV) (ok : Bool) (q : Option PV) : PV :=
  match ok, q with
  | true, some v => .tup [v, .bool true]
  | true, none => .tup [zero, .bool false]
  | false, some v => v
  | false, none => zero

/-- One operation. -/
def opV (P : Program) (d : Bool) (i : IOp) (fr : FR) (ba lo : List Ob) (K : AV → List Ob → List Ob → Prop) : Prop :=
  match i with
  | .mv x => evK x fr fun a => K a ba lo
  | .nilb sz => pushK lo (.buf 0 sz []) fun m loc' => K (.view (.l m) 0 sz 0) ba loc'
  | .mvS x => evK x fr fun a => match a with
    | .p (.str t) => K (.p (.str t)) ba lo
    | _ => False
  | .pick c a b => evK c fr fun c => match c with
    | .p (.bool true) => evK a fr fun a => K a ba lo
    | .p (.bool false) => evK b fr fun b => K b ba lo
    | _ => False
  | .bin op x y => evK x fr fun x => evK y fr fun y => binK op x y fun a => K a ba lo
  | .eqb neg x y => evK x fr fun x => evK y fr fun y => match x, y with
    | .p (.bool a), .p (.bool b) => K (.p (.bool (match neg with | true => !(a == b) | false => a == b))) ba lo
    | _, _ => False
  | .eqs neg ks x y => evK x fr fun x => evK y fr fun y => match x, y with
    | .p (.agg a), .p (.agg b) => ∃ q, eqCells ks a b = some q ∧ K (.p (.bool (match neg with | true => !q | false => q))) ba lo
    | _, _ => False
  | .isNil neg x => evK x fr fun x => match x with
    | .p .nilf => K (.p (.bool (match neg with | true => false | false => true))) ba lo
    | .p (.fn _) | .clos _ _ _ => K (.p (.bool (match neg with | true => true | false => false))) ba lo
    | _ => False
  | .not x => evK x fr fun x => match x with
    | .p (.bool b) => K (.p (.bool (!b))) ba lo
    | _ => False
  | .neg x => evK x fr fun x => match x with
    | .p (.int k a) => K (.p (.int k (k.wrap (0 - a)))) ba lo
    | _ => False
  | .conv k x => evK x fr fun x => match x with
    | .p (.int _ a) => K (.p (.int k (k.wrap a))) ba lo
    | _ => False
  | .toBytes x => evK x fr fun x => match x with
    | .p (.str t) => K (.p (.list 1 (byteInts t))) ba lo
    | _ => False
  | .ofBytes x => evK x fr fun x => contK 1 x ba lo fun ys => ∃ l, intBytes ys = some l ∧ K (.p (.str ⟨l.toArray⟩)) ba lo
  | .alloc zero => upPK zero fun cs => pushK lo (.cells cs) fun m loc' => K (.ref (.l m) 0) ba loc'
  | .box x => evK x fr fun a => cellsK a fun cs => pushK lo (.cells cs) fun m loc' => K (.ref (.l m) 0) ba loc'
  | .build zero parts => partsK parts fr fun ps => upPK zero fun cs => fillK ps cs fun cs' => mkAggK cs' fun a => K a ba lo
  | .lit own sz zero len parts => repK len zero fun es => litK sz parts fr es fun es' => match own with
    | true => pushK lo (.buf 0 sz es') fun m loc' => K (.view (.l m) 0 sz es'.length) ba loc'
    | false => K (.p (.list sz es')) ba lo
  | .load n a => evK a fr fun a => match a with
    | .p (.ptr cs) => readPK n cs fun v => K v ba lo
    | .ref (.l m) off => atK m lo fun o => match o with
      | .cells cs => dropK off cs fun cs => readAK n cs fun v => K v ba lo
      | _ => False
    | .ref (.b id) off => atK id ba fun o => match o with
      | .cells cs => dropK off cs fun cs => readAK n cs fun v => K v ba lo
      | _ => False
    | .elt (.l m) g sz idx off => atK m lo fun o => match o with
      | .buf g' sz' es => (g = g' ∧ sz = sz') ∧ ∃ e, es[idx]? = some e ∧ cellsPK e fun cs => dropK off cs fun cs => readPK n cs fun v => K v ba lo
      | _ => False
    | .elt (.b id) g sz idx off => atK id ba fun o => match o with
      | .buf g' sz' es => (g = g' ∧ sz = sz') ∧ ∃ e, es[idx]? = some e ∧ cellsPK e fun cs => dropK off cs fun cs => readPK n cs fun v => K v ba lo
      | _ => False
    | _ => False
  | .store n a x => evK a fr fun a => evK x fr fun x => cellsK x fun news => bif Nat.beq news.length n then match a with
    | .ref (.l m) off => atK m lo fun o => match o with
      | .cells cs => spliceK off news cs fun cs' => setAtK m lo (.cells cs') fun loc' => K (.p .undef) ba loc'
      | _ => False
    | .ref (.b id) off => atK id ba fun o => match o with
      | .cells cs => match noLs news with
        | true => spliceK off news cs fun cs' => setAtK id ba (.cells cs') fun ba' => K (.p .undef) ba' lo
        | false => False
      | _ => False
    | .elt (.l m) g sz idx off => atK m lo fun o => match o with
      | .buf g' sz' es => (g = g' ∧ sz = sz') ∧ ∃ e, es[idx]? = some e ∧ allPK news (fun ps => match e with
          | .agg cs => spliceK off ps cs fun cs' => setAtK m lo (.buf g' sz' (es.set idx (.agg cs'))) fun loc' => K (.p .undef) ba loc'
          | .undef | .tup _ => False
          | _ => match ps with
            | [c] => off = 0 ∧ sz = 1 ∧ setAtK m lo (.buf g' sz' (es.set idx c)) fun loc' => K (.p .undef) ba loc'
            | _ => False) False
      | _ => False
    | .elt (.b m) g sz idx off => atK m ba fun o => match o with
      | .buf g' sz' es => (g = g' ∧ sz = sz') ∧ ∃ e, es[idx]? = some e ∧ allPK news (fun ps => match e with
          | .agg cs => spliceK off ps cs fun cs' => setAtK m ba (.buf g' sz' (es.set idx (.agg cs'))) fun ba' => K (.p .undef) ba' lo
          | .undef | .tup _ => False
          | _ => match ps with
            | [c] => off = 0 ∧ sz = 1 ∧ setAtK m ba (.buf g' sz' (es.set idx c)) fun ba' => K (.p .undef) ba' lo
            | _ => False) False
      | _ => False
    | _ => False
    else False
  | .nilck x => evK x fr fun a => match a with
    | .p (.ptr cs) => K (.p (.ptr cs)) ba lo
    | .ref r o => K (.ref r o) ba lo
    | .p (.fn f) => K (.p (.fn f)) ba lo
    | .clos (.func f) as bs => K (.clos (.func f) as bs) ba lo
    | _ => False
  | .fieldA off x => evK x fr fun a => match a with
    | .p (.ptr cs) => dropK off cs fun cs => K (.p (.ptr cs)) ba lo
    | .ref r o => K (.ref r (o + off)) ba lo
    | .elt r g sz i o => aliveE r g ba lo ∧ K (.elt r g sz i (o + off)) ba lo
    | _ => False
  | .elemA sz x i => evK x fr fun x => evK i fr fun i => match x, i with
    | .p (.list sz' es), .p (.int _ i) => sz = sz' ∧ ∃ e, (0 ≤ i ∧ es[i.toNat]? = some e) ∧ cellsPK e fun cs => K (.p (.ptr cs)) ba lo
    | .p (.lent sz' es _), .p (.int _ i) => sz = sz' ∧ ∃ e, (0 ≤ i ∧ es[i.toNat]? = some e) ∧ cellsPK e fun cs => K (.p (.ptr cs)) ba lo
    | .view r g sz' len, .p (.int _ i) => (sz = sz' ∧ 0 ≤ i ∧ i < len) ∧ aliveV r g ba lo ∧ K (.elt r g sz i.toNat 0) ba lo
    | _, _ => False
  | .arrA sz len x i => evK x fr fun x => evK i fr fun i => match x, i with
    | .ref r o, .p (.int _ i) => (0 ≤ i ∧ i < len) ∧ K (.ref r (o + i.toNat * sz)) ba lo
    | _, _ => False
  | .fld off n x => evK x fr fun x => match x with
    | .p (.agg cs) => dropK off cs fun cs => readPK n cs fun v => K v ba lo
    | .agg cs => dropK off cs fun cs => readAK n cs fun v => K v ba lo
    | _ => False
  | .idxA sz len n x i => evK x fr fun x => evK i fr fun i => match x, i with
    | .p (.agg cs), .p (.int _ i) => (0 ≤ i ∧ i < len) ∧ match n with
      | some n => (i.toNat * sz + n ≤ cs.length) ∧ K (.p (.agg ((cs.drop (i.toNat * sz)).take n))) ba lo
      | none => ∃ c, cs[i.toNat * sz]? = some c ∧ K (.p c) ba lo
    | _, _ => False
  | .idxS x i => evK x fr fun x => evK i fr fun i => match x, i with
    | .p (.str t), .p (.int _ i) => ∃ c, (0 ≤ i ∧ t.data.toList[i.toNat]? = some c) ∧ K (.p (.int .u8 c.toNat)) ba lo
    | _, _ => False
  | .cutS x l0 h0 => evK x fr fun x => evOK l0 fr fun l0 => evOK h0 fr fun h0 => match x with
    | .p (.str t) => match l0, h0 with
      | none, none => K (.p (.str (t.extract 0 t.size))) ba lo
      | some (.p (.int _ l)), none => (0 ≤ l ∧ l ≤ t.size) ∧ K (.p (.str (t.extract l.toNat t.size))) ba lo
      | none, some (.p (.int _ h)) => (0 ≤ h ∧ h ≤ t.size) ∧ K (.p (.str (t.extract 0 h.toNat))) ba lo
      | some (.p (.int _ l)), some (.p (.int _ h)) => (0 ≤ l ∧ l ≤ h ∧ h ≤ t.size) ∧ K (.p (.str (t.extract l.toNat h.toNat))) ba lo
      | _, _ => False
    | _ => False
  | .cutL sz x l0 h0 mx => evK x fr fun x => evOK l0 fr fun l0 => evOK h0 fr fun h0 => match mx with
    | some _ => False
    | none => match x with
      | .p (.list sz' es) => sz = sz' ∧ (match l0, h0 with
        | none, none => K (.p (.list sz es)) ba lo
        | some (.p (.int _ l)), none => (0 ≤ l ∧ l ≤ es.length) ∧ K (.p (.list sz (es.drop l.toNat))) ba lo
        | none, some (.p (.int _ h)) => (0 ≤ h ∧ h ≤ es.length) ∧ K (.p (.list sz (es.take h.toNat))) ba lo
        | some (.p (.int _ l)), some (.p (.int _ h)) => (0 ≤ l ∧ l ≤ h ∧ h ≤ es.length) ∧ K (.p (.list sz ((es.take h.toNat).drop l.toNat))) ba lo
        | _, _ => False)
      | .p .nils => (match l0, h0 with
        | none, none => K (.p .nils) ba lo
        | some (.p (.int _ l)), none => l = 0 ∧ K (.p .nils) ba lo
        | none, some (.p (.int _ h)) => h = 0 ∧ K (.p .nils) ba lo
        | some (.p (.int _ l)), some (.p (.int _ h)) => (l = 0 ∧ h = 0) ∧ K (.p .nils) ba lo
        | _, _ => False)
      | .p (.lent sz' es sp) => sz = sz' ∧ (match l0, h0 with
        | none, some (.p (.int _ h)) => (0 ≤ h ∧ h ≤ (es ++ sp).length) ∧ K (.p (.lent sz ((es ++ sp).take h.toNat) ((es ++ sp).drop h.toNat))) ba lo
        | _, _ => False)
      | .view r g sz' len => aliveV r g ba lo ∧ (match l0, h0 with
        | none, some (.p (.int _ h)) => (0 ≤ h ∧ h ≤ len) ∧ K (.view r g sz' h.toNat) ba lo
        | none, none => K (.view r g sz' len) ba lo
        | _, _ => False)
      | _ => False
  | .lenS x => evK x fr fun x => match x with
    | .p (.str t) => K (.p (.int .i64 t.size)) ba lo
    | _ => False
  | .len x => evK x fr fun x => match x with
    | .p .nils => K (.p (.int .i64 0)) ba lo
    | .p (.list _ es) => K (.p (.int .i64 es.length)) ba lo
    | .p (.lent _ es _) => K (.p (.int .i64 es.length)) ba lo
    | .view r g _ len => aliveV r g ba lo ∧ K (.p (.int .i64 len)) ba lo
    | _ => False
  | .app sz bytes x y => evK x fr fun x => evK y fr fun y => contK sz y ba lo fun ys => appK sz bytes x ys ba lo K
  | .appS x y => evK x fr fun x => evK y fr fun y => match y with
    | .p (.str t) => appK 1 1 x (byteInts t) ba lo K
    | _ => False
  | .max2 x y => evK x fr fun x => evK y fr fun y => match x, y with
    | .p (.int k a), .p (.int j b) => kindK k j (K (.p (.int k (if b > a then b else a))) ba lo)
    | _, _ => False
  | .min2 x y => evK x fr fun x => evK y fr fun y => match x, y with
    | .p (.int k a), .p (.int j b) => kindK k j (K (.p (.int k (if b < a then b else a))) ba lo)
    | _, _ => False
  | .mkfn f first cap => evsK first fr fun as => evsK cap fr fun bs => match as, bs with
    | [], [] => K (.p (.fn f)) ba lo
    | _, _ => K (.clos f as bs) ba lo
  | .call f args => evsK args fr fun as => callK P d f as ba lo K
  | .callE f args => evsK args fr fun as => match d with
    | true => CallE P f as ba lo K
    | false => CallVC P f as ba lo K
  | .xcall f args => evsK args fr fun as => allPK as (fun ps => ∃ e, XOk P f ps e ∧ K (.p e) ba lo) False
  | .callv x args => evK x fr fun x => evsK args fr fun as => match x with
    | .p (.fn (.yield l)) => match d with
      | false => YieldVC P l as ba lo K
      | true => False
    | .p (.fn (.func f)) => enters P f = true ∧ callK P d f as ba lo K
    | .clos (.func f) first cap => enters P f = true ∧ callK P d f (first ++ as ++ cap) ba lo K
    | _ => False
  | .ext x i => evK x fr fun x => match x with
    | .p (.tup vs) => atK i vs fun v => K (.p v) ba lo
    | .tup vs => atK i vs fun v => K v ba lo
    | _ => False
  | .mk sz bytes zero len cap => evK len fr fun len => evK cap fr fun cap => match len, cap with
    | .p (.int _ l), .p (.int _ c) => (0 ≤ l ∧ l ≤ c ∧ room c.toNat bytes) ∧ ∃ zs, List.replicate l.toNat zero = zs ∧ pushK lo (.buf 0 sz zs) fun m loc' => K (.view (.l m) 0 sz l.toNat) ba loc'
    | _, _ => False
  | .mkmap => pushK lo (.map []) fun m loc' => K (.mapr (.l m)) ba loc'
  | .look kk zero ok x i => evK x fr fun x => evK i fr fun i => match i with
    | .p key => keyOk kk key = true ∧ match x with
      | .p .nilm => K (.p (lookV zero ok none)) ba lo
      | .mapr (.l m) => atK m lo fun o => match o with
        | .map es => ∃ q, mfind kk key es = some q ∧ K (.p (lookV zero ok q)) ba lo
        | _ => False
      | .mapr (.b m) => atK m ba fun o => match o with
        | .map es => ∃ q, mfind kk key es = some q ∧ K (.p (lookV zero ok q)) ba lo
        | _ => False
      | _ => False
    | _ => False
  | .mset kk x i v => evK x fr fun x => evK i fr fun i => evK v fr fun v => match i, v with
    | .p key, .p val => keyOk kk key = true ∧ match x with
      | .mapr (.l m) => atK m lo fun o => match o with
        | .map es => ∃ q, mput kk key val es = some q ∧ setAtK m lo (.map q) fun loc' => K (.p .undef) ba loc'
        | _ => False
      | .mapr (.b m) => atK m ba fun o => match o with
        | .map es => ∃ q, mput kk key val es = some q ∧ setAtK m ba (.map q) fun ba' => K (.p .undef) ba' lo
        | _ => False
      | _ => False
    | _, _ => False
  | _ => False

def putK (fr : FR) (dst : Option Nat) (v : AV) (K : FR → Prop) : Prop :=
  match dst with
  | none => K fr
  | some t => setK fr t v K

/-! The recursors stand here by their own names, so that a goal that has been reckoned out is, for the kernel too, what it was. -/

abbrev OV := FR → List Ob → List Ob → (FR → List Ob → List Ob → Prop) → Prop
abbrev WV := FR → List Ob → List Ob → (Exit → FR → List Ob → List Ob → Prop) → Prop

def opsStep (P : Program) (d : Bool) (o : IO_) (ih : OV) : OV := fun fr ba lo K => match o.guard with
    | none => opV P d o.op fr ba lo fun v ba lo => match o.split with
      | false => putK fr o.dst v fun fr => ih fr ba lo K
      | true => match v with
        | .p (.bool b) => splitB b fun b => putK fr o.dst (.p (.bool b)) fun fr => ih fr ba lo K
        | _ => False
    | some (t, want) => getK fr t fun g => match g, want with
      | .p (.bool true), true | .p (.bool false), false => opV P d o.op fr ba lo fun v ba lo => match o.split with
        | false => putK fr o.dst v fun fr => ih fr ba lo K
        | true => match v with
          | .p (.bool b) => splitB b fun b => putK fr o.dst (.p (.bool b)) fun fr => ih fr ba lo K
          | _ => False
      | .p (.bool true), false | .p (.bool false), true | .p (.tup []), true | .p (.tup []), false => putK fr o.dst (.p (.tup [])) fun fr => ih fr ba lo K
      | _, _ => False

def opsV (P : Program) (d : Bool) (l : List IO_) : OV := List.rec (motive := fun _ => OV) (fun fr ba lo K => K fr ba lo) (fun o _ ih => opsStep P d o ih) l

/-- What an operation does with objects: 0 nothing, 1 it looks, 2 it turns, 3 it makes a new one. -/
def effect : IOp → Nat
  | .load _ _ | .ofBytes _ | .call _ _ | .callv _ _ | .look _ _ _ _ _ | .len _ | .elemA _ _ _ | .fieldA _ _ | .cutL _ _ _ _ _ => 1
  | .alloc _ | .box _ | .nilb _ => 3
  | .store _ _ _ | .app _ _ _ _ | .appS _ _ | .mkmap | .mset _ _ _ _ | .mk _ _ _ _ _ | .callE _ _ | .bad => 2
  | .lit own _ _ _ _ => if own then 2 else 0
  | _ => 0

/-! Where an operation that looks may come behind one that turns: what it saw it must see then, too. -/
abbrev LG := List (Nat × IOp × FR × AV)
def lookAgain (P : Program) (l : LG) : List Ob → List Ob → Prop → Prop :=
  List.rec (motive := fun _ => List Ob → List Ob → Prop → Prop) (fun ba lo K => K) (fun x _ ih ba lo K => opV P true x.2.1 x.2.2.1 ba lo fun v _ _ => v = x.2.2.2 ∧ ih ba lo K) l
/-- Those that stand ahead of it in every order need not look again. -/
def freeK (bits : Nat) (l : LG) : (LG → Prop) → Prop :=
  List.rec (motive := fun _ => (LG → Prop) → Prop) (fun k => k []) (fun x _ ih k => match x with
    | (n, y) => match bits.testBit n with
      | true => ih k
      | false => ih fun r => k ((n, y) :: r)) l
def logS (P : Program) (bits idx : Nat) (i : IOp) (fr : FR) (v : AV) (log : LG) (ba lo : List Ob) (K : LG → Prop) : Prop :=
  match effect i with
  | 0 => K log
  | 1 => K ((idx, i, fr, v) :: log)
  | _ => freeK bits log fun log => lookAgain P log ba lo (K log)
def opsEStep (P : Program) (bits idx : Nat) (o : IO_) (ih : LG → OV) : LG → OV := fun log fr ba lo K => match o.guard with
    | none => opV P true o.op fr ba lo fun v ba lo => logS P bits idx o.op fr v log ba lo fun log => match o.split with
      | false => putK fr o.dst v fun fr => ih log fr ba lo K
      | true => match v with
        | .p (.bool b) => splitB b fun b => putK fr o.dst (.p (.bool b)) fun fr => ih log fr ba lo K
        | _ => False
    | some (t, want) => getK fr t fun g => match g, want with
      | .p (.bool true), true | .p (.bool false), false => opV P true o.op fr ba lo fun v ba lo => logS P bits idx o.op fr v log ba lo fun log => match o.split with
        | false => putK fr o.dst v fun fr => ih log fr ba lo K
        | true => match v with
          | .p (.bool b) => splitB b fun b => putK fr o.dst (.p (.bool b)) fun fr => ih log fr ba lo K
          | _ => False
      | .p (.bool true), false | .p (.bool false), true | .p (.tup []), true | .p (.tup []), false => putK fr o.dst (.p (.tup [])) fun fr => ih log fr ba lo K
      | _, _ => False
def opsE (P : Program) (l : List IO_) : List Nat → Nat → LG → OV := List.rec (motive := fun _ => List Nat → Nat → LG → OV) (fun _ _ _ fr ba lo K => K fr ba lo) (fun o _ ih bs idx => opsEStep P (bs.headD 0) idx o (ih bs.tail (idx + 1))) l

/-- What is to be shown at each way out of a piece: of a piece with more behind it, of a block. -/
def thenQ (K : FR → List Ob → List Ob → Prop) (Q : Exit → FR → List Ob → List Ob → Prop) : Exit → FR → List Ob → List Ob → Prop
  | .normal => K
  | e => Q e
def blockQ (id : Nat) (Q : Exit → FR → List Ob → List Ob → Prop) : Exit → FR → List Ob → List Ob → Prop
  | .exit i => bif Nat.beq i id then Q .normal else Q (.exit i)
  | e => Q e

/-- Behind a round: back to the places that count, and to as many objects as there were at first, where nothing names a later one. -/
def roundQ (ks : List Nat) (n : Nat) (R : FR → List Ob → List Ob → Prop) (fr : FR) (ba lo : List Ob) : Prop :=
  projK ks fr fun fr => match frLowL n fr && obsLowL n (lo.take n) with
    | true => takeK n lo fun lo => R fr ba lo
    | false => R fr ba lo

def opsS (P : Program) (d : Bool) (l : List IO_) : WV := fun fr ba lo Q => opsV P d l fr ba lo (Q .normal)
def opsES (P : Program) (l : List IO_) (bs : List Nat) : WV := fun fr ba lo Q => opsE P l bs 0 [] fr ba lo (Q .normal)
def seqS (a b : WV) : WV := fun fr ba lo Q => a fr ba lo (thenQ (fun fr ba lo => b fr ba lo Q) Q)
def condS (c : Rv) (a b : WV) : WV := fun fr ba lo Q => evK c fr fun v => match v with
    | .p (.bool t) => splitB t fun t => match t with
      | true => a fr ba lo Q
      | false => b fr ba lo Q
    | _ => False
def cutS' (ks : List Nat) (a b : WV) : WV := fun fr ba lo Q => a fr ba lo (thenQ (fun fr ba lo => projK ks fr fun fr => b fr ba lo Q) Q)
def blockS (id : Nat) (a : WV) : WV := fun fr ba lo Q => a fr ba lo (blockQ id Q)
def loopS (ks : List Nat) (a : WV) : WV := fun fr ba lo Q => projK ks fr fun fr0 => ∀ R : FR → List Ob → List Ob → Prop, (∀ fr ba' lo', a fr ba' lo' (thenQ (roundQ ks lo'.length R) Q) → R fr ba' lo') → R fr0 ba lo
def outS (e : Exit) : WV := fun fr ba lo Q => Q e fr ba lo
/-- In a piece with labels: R says what is to be shown at a label. -/
def scopeQ (R : Nat → FR → List Ob → List Ob → Prop) (Q : Exit → FR → List Ob → List Ob → Prop) : Exit → FR → List Ob → List Ob → Prop
  | .goto l => R l
  | e => Q e
def scopeS (a : WV) : WV := fun fr ba lo Q => ∀ R : Nat → FR → List Ob → List Ob → Prop, a fr ba lo (scopeQ R Q)
def labS (l : Nat) (x a : WV) : WV := fun fr ba lo Q => (∀ fr ba lo, x fr ba lo Q → Q (.goto l) fr ba lo) → a fr ba lo Q
def gotoS (l : Nat) (ks : List Nat) : WV := fun fr ba lo Q => projK ks fr fun fr => Q (.goto l) fr ba lo

/-! A range over a function. -/
def colK : FR → (List AV → Prop) → Prop
  | [], k => k []
  | (_, v) :: r, k => colK r fun vs => k (v :: vs)
def zipK : List Nat → List AV → (FR → Prop) → Prop
  | [], [], k => k []
  | t :: ts, v :: vs, k => zipK ts vs fun fr => k ((t, v) :: fr)
  | _, _, _ => False
def setPsK : List Nat → List PV → FR → (FR → Prop) → Prop
  | [], [], fr, k => k fr
  | t :: ts, v :: vs, fr, k => setK fr t (.p v) fun fr => setPsK ts vs fr k
  | _, _, _, _ => False
/-- A round is over. -/
def roundK (k l : Nat) (r : Loop) (st : LSt) (b : Bool) (K : AV → List Ob → List Ob → Prop) (ba lo : List Ob) : Prop :=
  atK k lo fun o => match o with
    | .loop l' r' ks cs .busy => (l' = l ∧ r' = r) ∧ setAtK k lo (.loop l r ks cs st) fun lo => K (.p (.bool b)) ba lo
    | _ => False
def roundE (k l : Nat) (r : Loop) (K : AV → List Ob → List Ob → Prop) : Exit → FR → List Ob → List Ob → Prop
  | .normal, _, ba, lo => roundK k l r .ready true K ba lo
  | .ret, _, ba, lo => roundK k l r (.done .ret) false K ba lo
  | .exit i, _, ba, lo => roundK k l r (.done (.exit i)) false K ba lo
  | .goto i, _, ba, lo => roundK k l r (.done (.goto i)) false K ba lo
  | _, _, _, _ => False
/-- A round: the loop's variables, the body. -/
def roundV (k l : Nat) (r : Loop) (ps : List Nat) (a b : WV) (pl : List PV) (ba lo : List Ob) (K : AV → List Ob → List Ob → Prop) : Prop :=
  atK k lo fun o => match o with
    | .loop l' r' ks cs .ready => (l' = l ∧ r' = r) ∧ zipK ks cs fun fr => setPsK ps pl fr fun fr => a fr ba lo (thenQ (fun fr ba lo => atK k lo fun o => match o with
        | .loop l' r' ks cs .ready => (l' = l ∧ r' = r) ∧ setAtK k lo (.loop l r ks cs .busy) fun lo => b fr ba lo (roundE k l r K)
        | _ => False) fun _ _ _ _ => False)
    | _ => False
/-- Behind the loop. -/
def loopEndK (k l : Nat) (r : Loop) (Q : Exit → FR → List Ob → List Ob → Prop) : AV → List Ob → List Ob → Prop := fun _ ba lo => atK k lo fun o => match o with
    | .loop l' r' ks cs st => (l' = l ∧ r' = r) ∧ setAtK k lo (.loop l r ks cs .over) fun lo => zipK ks cs fun fr => match st with
      | .ready => Q .normal fr ba lo
      | .done .ret => Q .ret fr ba lo
      | .done (.exit i) => Q (.exit i) fr ba lo
      | .done (.goto i) => Q (.goto i) fr ba lo
      | _ => False
    | _ => False
def rangeCallK (P : Program) (l : Nat) (g : AV) (ba lo : List Ob) (K : AV → List Ob → List Ob → Prop) : Prop :=
  match g with
  | .p (.fn (.func f)) => enters P f = true ∧ CallVC P f [.p (.fn (.yield l))] ba lo K
  | .clos (.func f) [] cap => enters P f = true ∧ CallVC P f (.p (.fn (.yield l)) :: cap) ba lo K
  | _ => False
def rangeS (P : Program) (ks : List Nat) (x : Rv) (ps : List Nat) (nr : Bool) (a b : WV) : WV := fun fr ba lo Q => projK ks fr fun fr0 => evK x fr fun g => nr = true ∧ colK fr0 fun cs => ∀ (l : Nat) (r : Loop), pushK lo (.loop l r ks cs .ready) fun k lo1 =>
  (∀ (pl : List PV) (ba' lo' : List Ob) (K : AV → List Ob → List Ob → Prop), roundV k l r ps a b pl ba' lo' K → YieldVC P l (pl.map .p) ba' lo' K) → rangeCallK P l g ba lo1 (loopEndK k l r Q)

def W (P : Program) (c : IC) : WV :=
  IC.rec (motive := fun _ => WV) (outS .normal) (fun l => opsS P false l) (fun l => opsS P true l) (fun l bs => opsES P l bs) (fun _ _ a b => seqS a b) (fun c _ _ a b => condS c a b) (fun ks _ _ a b => cutS' ks a b)
    (fun id _ a => blockS id a) (fun ks _ a => loopS ks a) (fun id => outS (.exit id)) (outS .ret) (fun _ _ _ _ => False) (fun _ a => scopeS a) (fun l _ _ x a => labS l x a) (fun _ => outS .normal) (fun l ks => gotoS l ks) (fun ks x ps a0 b0 a b => rangeS P ks x ps (a0.noR && b0.noR) a b) c

theorem W_cond (P : Program) (c : Rv) (a b : IC) (fr : FR) (ba lo : List Ob) (Q : Exit → FR → List Ob → List Ob → Prop) : W P (.cond c a b) fr ba lo Q = evK c fr fun v => match v with
    | .p (.bool t) => splitB t fun t => match t with
      | true => W P a fr ba lo Q
      | false => W P b fr ba lo Q
    | _ => False := rfl
theorem W_cut (P : Program) (ks : List Nat) (a b : IC) (fr : FR) (ba lo : List Ob) (Q : Exit → FR → List Ob → List Ob → Prop) : W P (.cut ks a b) fr ba lo Q = W P a fr ba lo (thenQ (fun fr ba lo => projK ks fr fun fr => W P b fr ba lo Q) Q) := rfl
theorem W_loop (P : Program) (ks : List Nat) (a : IC) (fr : FR) (ba lo : List Ob) (Q : Exit → FR → List Ob → List Ob → Prop) : W P (.loop ks a) fr ba lo Q = projK ks fr fun fr0 => ∀ R : FR → List Ob → List Ob → Prop, (∀ fr ba' lo', W P a fr ba' lo' (thenQ (roundQ ks lo'.length R) Q) → R fr ba' lo') → R fr0 ba lo := rfl

inductive IRes where
  | tmp (t : Nat)
  | cell (t : Nat) (n : Option Nat)
  deriving Inhabited

structure IF where
  params : Nat
  ntmps : Nat
  res : List IRes
  body : IC
  deriving Inhabited

def resK (fr : FR) (ba lo : List Ob) (r : IRes) (K : AV → Prop) : Prop :=
  match r with
  | .tmp t => getK fr t K
  | .cell t n => getK fr t fun a => match a with
    | .ref (.l m) off => atK m lo fun o => match o with
      | .cells cs => dropK off cs fun cs => readAK n cs K
      | _ => False
    | _ => False

def ressK (fr : FR) (ba lo : List Ob) : List IRes → (List AV → Prop) → Prop
  | [], K => K []
  | r :: rs, K => resK fr ba lo r fun a => ressK fr ba lo rs fun as => K (a :: as)

/-- A value handed back: what it holds of the call's own is written no more. -/
def frzK (lo : List Ob) (a : AV) (K : AV → Prop) : Prop :=
  match a with
  | .p v => K (.p v)
  | .view (.l m) g sz len => atK m lo fun o => match o with
    | .buf g' sz' es => (g = g' ∧ sz = sz') ∧ ((∃ ys, len ≤ es.length ∧ es.take len = ys ∧ K (.p (.list sz ys))) ∨ ∃ ys sp, (0 < sz ∧ 0 < es.length) ∧ es = ys ++ sp ∧ ys.length = len ∧ K (.p (.lent sz ys sp)))
    | _ => False
  | .ref (.l m) 0 => atK m lo fun o => match o with
    | .cells cs => allPK cs (fun ps => K (.p (.ptr ps))) False
    | _ => False
  | .ref (.b id) o => K (.ref (.b id) o)
  | .view (.b id) g sz len => K (.view (.b id) g sz len)
  | .mapr (.b id) => K (.mapr (.b id))
  | _ => False

def frzsK (lo : List Ob) : List AV → (List AV → Prop) → Prop
  | [], K => K []
  | a :: r, K => frzK lo a fun a => frzsK lo r fun as => K (a :: as)

def frz1K (lo : List Ob) (a : AV) (K : AV → Prop) : Prop :=
  match a with
  | .agg cs => frzsK lo cs fun cs => mkAggK cs K
  | a => frzK lo a K

def frz1sK (lo : List Ob) : List AV → (List AV → Prop) → Prop
  | [], K => K []
  | a :: r, K => frz1K lo a fun a => frz1sK lo r fun as => K (a :: as)

def retK (fr : FR) (ba lo : List Ob) (rs : List IRes) (K : AV → List Ob → Prop) : Prop :=
  ressK fr ba lo rs fun as => frz1sK lo as fun as => match as with
    | [a] => K a ba
    | as => mkTupK as fun a => K a ba

def frameOf : Nat → List AV → FR
  | _, [] => []
  | n, a :: r => (n, a) :: frameOf (n + 1) r

/-- What is to be shown of a function called with these values. -/
def endQ (f : IF) (Q : AV → List Ob → Prop) : Exit → FR → List Ob → List Ob → Prop
  | .ret, fr, ba, lo => retK fr ba lo f.res Q
  | .normal, fr, ba, lo => retK fr ba lo f.res Q
  | _, _, _, _ => False

def fnV (P : Program) (f : IF) (args : List AV) (H : List Ob) (Q : AV → List Ob → Prop) : Prop :=
  bif Nat.beq args.length f.params then W P f.body (frameOf 0 args) H [] (endQ f Q) else False

theorem splitB_dec {p : Prop} [inst : Decidable p] {K : Bool → Prop} (h1 : p → K true) (h2 : ¬ p → K false) : splitB (decide p) K := by
  by_cases h : p
  · rw [decide_eq_true h]; exact ⟨h1 h⟩
  · rw [decide_eq_false h]; exact ⟨h2 h⟩
theorem splitB_eq {α : Type} [inst : BEq α] [LawfulBEq α] {a b : α} {K : Bool → Prop} (h1 : a = b → K true) (h2 : ¬ a = b → K false) : splitB (a == b) K := by
  by_cases h : a = b
  · rw [beq_iff_eq.2 h]; exact ⟨h1 h⟩
  · rw [beq_eq_false_iff_ne.2 h]; exact ⟨h2 h⟩
theorem splitB_ne {α : Type} [inst : BEq α] [LawfulBEq α] {a b : α} {K : Bool → Prop} (h1 : ¬ a = b → K true) (h2 : a = b → K false) : splitB (a != b) K := by
  by_cases h : a = b
  · rw [bne, beq_iff_eq.2 h]; exact ⟨h2 h⟩
  · rw [bne, beq_eq_false_iff_ne.2 h]; exact ⟨h1 h⟩
theorem splitB_t {b : Bool} {K : Bool → Prop} (h : b = true) (k : K true) : splitB b K := by subst h; exact ⟨k⟩
theorem splitB_f {b : Bool} {K : Bool → Prop} (h : b = false) (k : K false) : splitB b K := by subst h; exact ⟨k⟩
theorem splitB_intro {b : Bool} {K : Bool → Prop} (h1 : b = true → K true) (h2 : b = false → K false) : splitB b K := by
  cases b
  · exact ⟨h2 rfl⟩
  · exact ⟨h1 rfl⟩

end Go.Proofs.Ytkjidklifmcpnaa.AD
