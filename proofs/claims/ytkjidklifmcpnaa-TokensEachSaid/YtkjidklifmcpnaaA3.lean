/- A plainer machine, three: the program's own code, its types read off. -/
import Derived.Test.YtkjidklifmcpnaaA2
namespace Go.Proofs.Ytkjidklifmcpnaa.AD
set_option linter.unusedVariables false

/-- A constant. -/
def absP : Value → Option PV
  | .bool b => some (.bool b)
  | .int k n => some (.int k n)
  | .string s => some (.str s)
  | .pointer none => some .nilp
  | .slice none 0 0 => some .nils
  | .map none => some .nilm
  | .func f ⟨[]⟩ ⟨[]⟩ => some (.fn f)
  | .nilFunc => some .nilf
  | .nilIface => some .nili
  | _ => none

def absPs : List Value → Option (List PV)
  | [] => some []
  | v :: r => match absP v, absPs r with
    | some c, some cs => some (c :: cs)
    | _, _ => none

/-- The value with which a variable of a type begins. -/
def absZ (v : Value) : Option PV :=
  match v with
  | .agg cs => (absPs cs.toList).map PV.agg
  | v => absP v

def rv : Operand → Option Rv
  | .tmp t => some (.t t)
  | .const v => (absZ v).map fun e => .v (.p e)
  | .func f => some (.v (.p (.fn (.func f))))
  | .global _ => none

def rvs : List Operand → Option (List Rv)
  | [] => some []
  | x :: r => match rv x, rvs r with
    | some c, some cs => some (c :: cs)
    | _, _ => none

def rvO : Option Operand → Option (Option Rv)
  | none => some none
  | some x => (rv x).map some

def isAggT (P : Program) (t : TypeId) : Option Bool :=
  match P.underlying t with
  | some (.struct _) | some (.array _ _) => some true
  | some _ => some false
  | none => none

/-- How a variable of a type is read: as so many cells, or as one. -/
def readT (P : Program) (t : TypeId) : Option (Option Nat) :=
  match isAggT P t, P.info? t with
  | some true, some i => some (some i.size)
  | some false, some i => if i.size = 1 then some none else none
  | _, _ => none

def sizeT (P : Program) (t : TypeId) : Option Nat := (P.info? t).map (·.size)

def placesOf (P : Program) (fields : Array Field) : Option (List (Nat × Nat)) := fields.toList.mapM (fun f => (P.info? f.type).map fun i => (f.offset, i.size))

def structParts (places : List (Nat × Nat)) : List (Nat × Operand) → Option (List (Nat × Nat × Rv))
  | [] => some []
  | (i, x) :: r => match places[i]?, rv x, structParts places r with
    | some (o, n), some v, some ps => some ((o, n, v) :: ps)
    | _, _, _ => none

def arrayParts (size : Nat) : List (Nat × Operand) → Option (List (Nat × Nat × Rv))
  | [] => some []
  | (i, x) :: r => match rv x, arrayParts size r with
    | some v, some ps => some ((i * size, size, v) :: ps)
    | _, _ => none

def sliceParts : List (Nat × Operand) → Option (List (Nat × Rv))
  | [] => some []
  | (i, x) :: r => match rv x, sliceParts r with
    | some v, some ps => some ((i, v) :: ps)
    | _, _ => none

def plainCells : List PV → Bool
  | [] => true
  | .int _ _ :: r | .str _ :: r | .bool _ :: r => plainCells r
  | _ => false

def compCall (P : Program) (c : Call) : Option IOp :=
  match c.callee, c.args.toList, c.argTypes.toList with
  | .builtin .append, [x, y], [s, t] =>
    match P.underlying s with
    | some (.slice e) => match P.info? e, P.underlying t, rv x, rv y with
      | some i, some (.slice _), some x, some y => if (i.zero.map fun z => z.cells.size) = some i.size ∧ 0 < i.size ∧ 0 < i.bytes then some (.app i.size i.bytes x y) else none
      | some i, some .string, some x, some y => if (i.zero.map fun z => z.cells.size) = some i.size ∧ i.size = 1 ∧ i.bytes = 1 then some (.appS x y) else none
      | _, _, _, _ => none
    | _ => none
  | .builtin .len, [x], [t] =>
    match P.underlying t, rv x with
    | some .string, some x => some (.lenS x)
    | some (.slice _), some x => some (.len x)
    | _, _ => none
  | .builtin .max, [x, y], _ => match rv x, rv y with
    | some x, some y => some (.max2 x y)
    | _, _ => none
  | .builtin .min, [x, y], _ => match rv x, rv y with
    | some x, some y => some (.min2 x y)
    | _, _ => none
  | .value (.func f), xs, _ => if enters P f = true then (rvs xs).map (.call f) else (rvs xs).map (.xcall f)
  | .value (.tmp t), xs, _ => (rvs xs).map (.callv (.t t))
  | _, _, _ => none

/-- Fields of one cell each, one behind the other: whole numbers, texts, bools. -/
def skOf (P : Program) (t : TypeId) : Option SK :=
  match P.underlying t with
  | some (.int k) => some (.int k)
  | some .string => some .str
  | some .bool => some .bool
  | _ => none
def plainFields (P : Program) : Nat → List Field → Option (List SK)
  | _, [] => some []
  | i, f :: r => if f.offset = i ∧ f.name ≠ "_" then (match skOf P f.type, plainFields P (i + 1) r with
    | some k, some ks => some (k :: ks)
    | _, _ => none) else none

/-- What a map's keys are: texts, or whole numbers of a kind. -/
def keyT (P : Program) (t : TypeId) : Option (Option IntKind) :=
  match P.underlying t with
  | some .string => some none
  | some (.int k) => some (some k)
  | _ => none

def compO0 (P : Program) (own : List Nat) (o : Oper) : Option IOp :=
  match o.op with
  | .move x | .assign x => (rv x).map .mv
  | .pick c a b => match rv c, rv a, rv b with
    | some c, some a, some b => some (.pick c a b)
    | _, _, _ => none
  | .alloc e => match P.info? e with
    | some i => match i.zero with
      | some z => (absPs z.cells.toList).map .alloc
      | none => none
    | none => none
  | .box e x => (rv x).map .box
  | .build t parts => match P.info? t with
    | some i => match i.zero, P.underlying t with
      | some z, some (.struct fields) => match absPs z.cells.toList, placesOf P fields with
        | some zs, some places => (structParts places parts.toList).map (.build zs)
        | _, _ => none
      | some z, some (.array _ e) => match absPs z.cells.toList, P.info? e with
        | some zs, some ie => (arrayParts ie.size parts.toList).map (.build zs)
        | _, _ => none
      | _, _ => none
    | none => none
  | .buildSlice t len parts => match P.underlying t with
    | some (.slice e) => match P.info? e with
      | some i => match i.zero with
        | some z => match absZ z, sliceParts parts.toList with
          | some z', some ps => if len * i.size ≤ 16777216 ∧ len * i.size ≠ 0 ∧ z.cells.size = i.size then some (.lit (match o.dst with | some d => own.contains d | none => false) i.size z' len ps) else none
          | _, _ => none
        | none => none
      | none => none
    | _ => none
  | .load t a => match readT P t, rv a with
    | some n, some a => some (.load n a)
    | _, _ => none
  | .store t a x => match sizeT P t, rv a, rv x with
    | some n, some a, some x => some (.store n a x)
    | _, _, _ => none
  | .nilCheck x => (rv x).map .nilck
  | .binOp op t x y _ => match P.underlying t, rv x, rv y with
    | some (.int _), some x, some y => some (.bin op x y)
    | some .string, some x, some y => some (.bin op x y)
    | some .bool, some x, some y => match op with
      | .eql => some (.eqb false x y)
      | .neq => some (.eqb true x y)
      | _ => none
    | some (.struct fs), some x, some y => if P.stoodInHeld t = false ∧ P.eqGuardType P.depth t = false then (match op, plainFields P 0 fs.toList with
      | .eql, some ks => some (.eqs false ks x y)
      | .neq, some ks => some (.eqs true ks x y)
      | _, _ => none) else none
    | some (.func _ _ _), some x, some (.v (.p .nilf)) => match op with
      | .eql => some (.isNil false x)
      | .neq => some (.isNil true x)
      | _ => none
    | _, _, _ => none
  | .unOp .not _ x => (rv x).map .not
  | .unOp .neg _ x => (rv x).map .neg
  | .convert s d x => match P.underlying s, P.underlying d, rv x with
    | some (.int _), some (.int k), some x => some (.conv k x)
    | some .string, some .string, some x => some (.mvS x)
    | some .string, some (.slice e), some x => match P.underlying e with
      | some (.int .u8) => some (.toBytes x)
      | _ => none
    | some (.slice e), some .string, some x => match P.underlying e with
      | some (.int .u8) => some (.ofBytes x)
      | _ => none
    | _, _, _ => none
  | .slice t x lo hi mx => match P.underlying t, rv x, rvO lo, rvO hi, rvO mx with
    | some .string, some x, some lo, some hi, some none => some (.cutS x lo hi)
    | some (.slice e), some x, some lo, some hi, some mx => match sizeT P e with
      | some n => some (.cutL n x lo hi mx)
      | none => none
    | _, _, _, _, _ => none
  | .fieldAddr s x f => match P.underlying s, rv x with
    | some (.struct fields), some x => match fields[f]? with
      | some fd => match sizeT P fd.type with
        | some n => if n = 0 then none else some (.fieldA fd.offset x)
        | none => none
      | none => none
    | _, _ => none
  | .field t x f => match P.underlying t, rv x with
    | some (.struct fields), some x => match fields[f]? with
      | some fd => (readT P fd.type).map fun n => .fld fd.offset n x
      | none => none
    | _, _ => none
  | .indexAddr t x i => match P.underlying t, rv x, rv i with
    | some (.slice e), some x, some i => (sizeT P e).map fun n => .elemA n x i
    | some (.array len e), some x, some i => (sizeT P e).map fun n => .arrA n len x i
    | _, _, _ => none
  | .index t x i => match P.underlying t, rv x, rv i with
    | some (.array len e), some x, some i => match sizeT P e, readT P e with
      | some sz, some n => some (.idxA sz len n x i)
      | _, _ => none
    | some .string, some x, some i => some (.idxS x i)
    | _, _, _ => none
  | .makeFunc f first cap => match rvs first.toList, rvs cap.toList with
    | some as, some bs => some (.mkfn f as bs)
    | _, _ => none
  | .extract x i => (rv x).map fun x => .ext x i
  | .call c => compCall P c
  | .makeMap _ none => some .mkmap
  | .makeSlice t l c => match P.underlying t, rv l, rv c with
    | some (.slice e), some l, some c => match P.info? e with
      | some i => match i.zero with
        | some z => if z.cells.size = i.size ∧ 0 < i.size ∧ 0 < i.bytes then (absZ z).map fun z' => .mk i.size i.bytes z' l c else none
        | none => none
      | none => none
    | _, _, _ => none
  | .lookup t x i ok => match P.underlying t, rv x, rv i with
    | some (.map kt et), some x, some i => match keyT P kt, (P.info? et).bind (·.zero) with
      | some kk, some z => (absZ z).map fun z => .look kk z ok x i
      | _, _ => none
    | _, _, _ => none
  | .mapUpdate t m k x => match P.underlying t, rv m, rv k, rv x with
    | some (.map kt _), some m, some k, some x => (keyT P kt).map fun kk => .mset kk m k x
    | _, _, _, _ => none
  | _ => none

/-- An operation that is not read may stand where nobody comes. -/
def markE (own : List Nat) (o : Oper) (i : IOp) : IOp :=
  match i with
  | .call f a => if (match o.dst with | some d => own.contains d | none => false) then .callE f a else .call f a
  | .mv (.v (.p .nils)) => match o.dst with
    | some d => match own.find? fun n => Nat.blt 999 n && Nat.beq (n % 1000) d with
      | some n => .nilb (n / 1000)
      | none => .mv (.v (.p .nils))
    | none => .mv (.v (.p .nils))
  | i => i
theorem markE_out (own : List Nat) (o : Oper) (j : IOp) : markE own o j = j ∨ (∃ f a, j = .call f a ∧ markE own o j = .callE f a) ∨ ∃ sz, j = .mv (.v (.p .nils)) ∧ markE own o j = .nilb sz := by
  unfold markE
  split
  · generalize (match o.dst with | some d => own.contains d | none => false) = b
    cases b
    · exact .inl rfl
    · exact .inr (.inl ⟨_, _, rfl, rfl⟩)
  · split
    · split
      · exact .inr (.inr ⟨_, rfl, rfl⟩)
      · exact .inl rfl
    · exact .inl rfl
  · exact .inl rfl
def compO (P : Program) (own : List Nat) (o : Oper) : Option IOp := some (markE own o ((compO0 P own o).getD .bad))

/-- Is what an operation answers asked by a later one's guard? -/
def asked (ops : List Oper) (i : Nat) : Bool := ops.any fun o => match o.guard with
  | some (j, _) => j == i
  | none => false

def compI (P : Program) (N : Nat) (own : List Nat) (ops : List Oper) (i : Nat) (o : Oper) : Option IO_ :=
  if (o.dst.all fun d => Nat.blt d N) = false then none else
  match compO P own o with
  | none => none
  | some op => match o.guard with
    | none => some ⟨o.dst, none, asked ops i, op⟩
    | some (j, b) => match ops[j]? with
      | some g => match g.dst with
        | some t => some ⟨o.dst, some (t, b), asked ops i, op⟩
        | none => none
      | none => none

def compOps (P : Program) (N : Nat) (own : List Nat) (all : List Oper) : Nat → List Oper → Option (List IO_)
  | _, [] => some []
  | i, o :: r => match compI P N own all i o, compOps P N own all (i + 1) r with
    | some x, some xs => some (x :: xs)
    | _, _ => none

/-- May two operations whose order is open come in either order? (The first one stands ahead in the text.) -/
def freePair (m : Bool) (ops : Array Oper) (x y : Oper) (ex ey : Nat) : Bool := x.apart ops y && (ex == 0 || ey == 0 || (ex == 1 && (m || ey == 1 || ey == 3)))

/-- For each operation those that stand ahead of it in every order, as a number's bits. -/
def befores (ops : List Oper) : List Nat :=
  ops.foldl (fun acc o => acc ++ [o.after.toList.foldl (fun s e => if Region.binds .any e then s ||| 2 ^ e.on ||| acc.getD e.on 0 else s) 0]) []

def drawOk (m : Bool) (ops : List Oper) (is : List IO_) : Bool :=
  Region.noSelect ops.toArray &&
  (let bs := befores ops
   (List.range ops.length).all fun j => (List.range j).all fun i => (bs.getD j 0).testBit i || freePair m ops.toArray (ops.getD i default) (ops.getD j default) (effect (is.getD i default).op) (effect (is.getD j default).op)) &&
  ops.zipIdx.all fun (o, i) => o.after.toList.all fun e => !Region.binds .any e || decide (e.on < i)

/-- What stands behind a label. -/
def findI : IC → Nat → Option IC
  | .seq a b, l => match findI a l with
    | some r => some (.seq r b)
    | none => findI b l
  | .label l', l => if l' == l then some .skip else none
  | _, _ => none
def labelsI : IC → List Nat
  | .seq a b => labelsI a ++ labelsI b
  | .label l => [l]
  | _ => []
def chainI (x : IC) : List Nat → IC
  | [] => x
  | l :: ls => match findI x l with
    | some y => .lab l y (chainI x ls)
    | none => chainI x ls

def compC (P : Program) (N : Nat) (own : List Nat) : Code → Option IC
  | .skip => some .skip
  | .region _ ops draw => match compOps P N own ops.toList 0 ops.toList with
    | some is => if draw then (if drawOk false ops.toList is then some (.dops is) else if drawOk true ops.toList is then some (.eops is (befores ops.toList)) else none) else some (.ops is)
    | none => none
  | .seq a b => match compC P N own a, compC P N own b with
    | some a, some b => some (.seq a b)
    | _, _ => none
  | .cond c a b => match rv c, compC P N own a, compC P N own b with
    | some c, some a, some b => some (.cond c a b)
    | _, _, _ => none
  | .block id a => (compC P N own a).map (.block id)
  | .loop a => (compC P N own a).map (.loop [])
  | .exit id => some (.exit id)
  | .ret => some .ret
  | .scope c => (compC P N own c).map fun x => .scope (chainI x (labelsI x))
  | .label l => some (.label l)
  | .goto l => some (.goto l [])
  | .rangeFunc g ps a b => match rv g, compC P N own a, compC P N own b with
    | some r, some x, some y => if ps.toList.all (fun t => Nat.blt t N) = true then some (.rangeF [] r ps.toList x y) else none
    | _, _, _ => none
  | _ => some .bad

def compR (P : Program) : List ResultVar → Option (List IRes)
  | [] => some []
  | .tmp t :: r => (compR P r).map (.tmp t :: ·)
  | .cell t ty :: r => match readT P ty, compR P r with
    | some n, some rs => some (.cell t n :: rs)
    | _, _ => none

def compF (P : Program) (own : List Nat) (f : Nat) : Option IF :=
  match P.funcs[f]? with
  | none => none
  | some fn => match fn.body with
    | none => none
    | some c => match compC P fn.ntmps own c, compR P fn.results.toList with
      | some ic, some rs => if fn.params.size + fn.nfree ≤ fn.ntmps ∧ enters P f = true ∧ P.follows .mixedOrders = true then some ⟨fn.params.size + fn.nfree, fn.ntmps, rs, ic⟩ else none
      | _, _ => none

def IF.bare (f : IF) : IF := ⟨f.params, f.ntmps, f.res, f.body.bare⟩

/-! ### short names, for printed texts -/
abbrev O (d : Nat) (op : IOp) : IO_ := ⟨some d, none, false, op⟩
abbrev OS (d : Nat) (op : IOp) : IO_ := ⟨some d, none, true, op⟩
abbrev OG (d t : Nat) (b : Bool) (op : IOp) : IO_ := ⟨some d, some (t, b), false, op⟩
abbrev OGS (d t : Nat) (b : Bool) (op : IOp) : IO_ := ⟨some d, some (t, b), true, op⟩
abbrev OZ (op : IOp) : IO_ := ⟨none, none, false, op⟩
abbrev OZG (t : Nat) (b : Bool) (op : IOp) : IO_ := ⟨none, some (t, b), false, op⟩
abbrev I (n : Int) : Rv := .v (.p (.int .i64 n))
abbrev U (n : Int) : Rv := .v (.p (.int .u8 n))

end Go.Proofs.Ytkjidklifmcpnaa.AD
