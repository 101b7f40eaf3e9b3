/-
  NARROWER THAN 'FOR EVERY INPUT', by the rows' own cells (each row's printed sentence says how): TypesOf: loops · TypesSimple: loops · TypesClauses: loops · TypesEach: loops.
  DERIVED. THE GIVEN ROWS OF THIS SEAT. 5 by the template 'for every input the law returns true; each argument reads behind the call as it read before'; 0 by the template 'total and deterministic' (their statements: YtaanmljlbhkonaaTotals.lean).
  GIVEN WITH THE SEED: the statements are not yours to turn. If you find one false, say at which input.
  Laid BY PROGRAM, IN A SANDBOX (cutbox-rows.mjs): the forced cells as the released guide's own fill.sh prints them over the translation cb4782cf5d55c9fd… (all of the seat's roots in one cut). By AI agents, Wed Nov 11 2026. No macro, syntax, notation, axiom, sorry.
-/
import Derived.Test.YtaanmljlbhkonaaChecked
import GoSem.Claim
import GoSem.ClaimJoined
import GoSem.ClaimMapViews
import Derived.JoinedTies
import Derived.KernelRfl
namespace Go.Proofs.Ytaanmljlbhkonaa
/- THE CELL 'sum', in the pinned program and in every row, IS THE sha256 OF THE DUMP (.gsa) THAT YtaanmljlbhkonaaProg.lean LOADS. Nothing in Lean hashes anything: it is a label: what it is worth is what the hold of that sum in a sandbox is worth. -/
noncomputable def Try.pinned : Pinned := { name := "ytaanmljlbhkonaa", sum := "cb4782cf5d55c9fd9c47bdf32a5a3a267f8fb5ae554a3a44460313ae066d4819", checked := Try.checked }
namespace Rows
def none {H : Type} : Left H := { results := [], args := [] }

/-- 'vouchlaw20.TypesOf': WHATEVER THE INPUT: true; the input reads as it did. -/
def typesOfSpec : ChangeSpec := { name := "typesOf", fn := fun _ => fun
  | [d] => { results := [.lit (.bool true)], args := [d] }
  | _ => none }
def typesOfRow : OpenClaim := { program := "ytaanmljlbhkonaa", sum := "cb4782cf5d55c9fd9c47bdf32a5a3a267f8fb5ae554a3a44460313ae066d4819", func := "vouch/vouchlaw20.TypesOf", spec := "typesOf", inPlace := ["internal/bytealg.IndexByteString", "internal/bytealg.IndexString"], unfollowed := true, recurses := true, named := ["internal/bytealg.MaxLen"], loops := true, apart := false }
def TypesOfSaid : Prop := typesOfRow.holds Try.pinned (OpenSpec.ofChange typesOfSpec)

/-- ITS FALSE NEIGHBOUR: 'it returns false'. Refute it at one input. -/
def typesOfWrong : ChangeSpec := { name := "typesOf", fn := fun _ => fun
  | [d] => { results := [.lit (.bool false)], args := [d] }
  | _ => none }
def TypesOfWrongFalsely : Prop := typesOfRow.holds Try.pinned (OpenSpec.ofChange typesOfWrong)

/-- 'vouchlaw20.TypesSimple': WHATEVER THE INPUT: true; the input reads as it did. -/
def typesSimpleSpec : ChangeSpec := { name := "typesSimple", fn := fun _ => fun
  | [d] => { results := [.lit (.bool true)], args := [d] }
  | _ => none }
def typesSimpleRow : OpenClaim := { program := "ytaanmljlbhkonaa", sum := "cb4782cf5d55c9fd9c47bdf32a5a3a267f8fb5ae554a3a44460313ae066d4819", func := "vouch/vouchlaw20.TypesSimple", spec := "typesSimple", inPlace := ["internal/bytealg.IndexByteString", "internal/bytealg.IndexString"], unfollowed := true, recurses := true, named := ["internal/bytealg.MaxLen"], loops := true, apart := false }
def TypesSimpleSaid : Prop := typesSimpleRow.holds Try.pinned (OpenSpec.ofChange typesSimpleSpec)

/-- ITS FALSE NEIGHBOUR: 'it returns false'. Refute it at one input. -/
def typesSimpleWrong : ChangeSpec := { name := "typesSimple", fn := fun _ => fun
  | [d] => { results := [.lit (.bool false)], args := [d] }
  | _ => none }
def TypesSimpleWrongFalsely : Prop := typesSimpleRow.holds Try.pinned (OpenSpec.ofChange typesSimpleWrong)

/-- 'vouchlaw20.TypesClauses': WHATEVER THE INPUT: true; the input reads as it did. -/
def typesClausesSpec : ChangeSpec := { name := "typesClauses", fn := fun _ => fun
  | [d] => { results := [.lit (.bool true)], args := [d] }
  | _ => none }
def typesClausesRow : OpenClaim := { program := "ytaanmljlbhkonaa", sum := "cb4782cf5d55c9fd9c47bdf32a5a3a267f8fb5ae554a3a44460313ae066d4819", func := "vouch/vouchlaw20.TypesClauses", spec := "typesClauses", inPlace := ["internal/bytealg.IndexByteString", "internal/bytealg.IndexString"], unfollowed := true, recurses := true, named := ["internal/bytealg.MaxLen"], loops := true, apart := false }
def TypesClausesSaid : Prop := typesClausesRow.holds Try.pinned (OpenSpec.ofChange typesClausesSpec)

/-- ITS FALSE NEIGHBOUR: 'it returns false'. Refute it at one input. -/
def typesClausesWrong : ChangeSpec := { name := "typesClauses", fn := fun _ => fun
  | [d] => { results := [.lit (.bool false)], args := [d] }
  | _ => none }
def TypesClausesWrongFalsely : Prop := typesClausesRow.holds Try.pinned (OpenSpec.ofChange typesClausesWrong)

/-- 'vouchlaw20.TypesEach': WHATEVER THE INPUT: true; the input reads as it did. -/
def typesEachSpec : ChangeSpec := { name := "typesEach", fn := fun _ => fun
  | [d] => { results := [.lit (.bool true)], args := [d] }
  | _ => none }
def typesEachRow : OpenClaim := { program := "ytaanmljlbhkonaa", sum := "cb4782cf5d55c9fd9c47bdf32a5a3a267f8fb5ae554a3a44460313ae066d4819", func := "vouch/vouchlaw20.TypesEach", spec := "typesEach", inPlace := ["internal/bytealg.IndexByteString", "internal/bytealg.IndexString"], unfollowed := true, recurses := true, named := ["internal/bytealg.MaxLen"], loops := true, apart := false }
def TypesEachSaid : Prop := typesEachRow.holds Try.pinned (OpenSpec.ofChange typesEachSpec)

/-- ITS FALSE NEIGHBOUR: 'it returns false'. Refute it at one input. -/
def typesEachWrong : ChangeSpec := { name := "typesEach", fn := fun _ => fun
  | [d] => { results := [.lit (.bool false)], args := [d] }
  | _ => none }
def TypesEachWrongFalsely : Prop := typesEachRow.holds Try.pinned (OpenSpec.ofChange typesEachWrong)

/-- 'vouchlaw20.TypesKnown': WHATEVER THE INPUT: true; the input reads as it did. -/
def typesKnownSpec : ChangeSpec := { name := "typesKnown", fn := fun _ => fun
  | [] => { results := [.lit (.bool true)], args := [] }
  | _ => none }
def typesKnownRow : OpenClaim := { program := "ytaanmljlbhkonaa", sum := "cb4782cf5d55c9fd9c47bdf32a5a3a267f8fb5ae554a3a44460313ae066d4819", func := "vouch/vouchlaw20.TypesKnown", spec := "typesKnown", inPlace := ["internal/bytealg.IndexByteString", "internal/bytealg.IndexString"], unfollowed := true, recurses := true, named := ["internal/bytealg.MaxLen"], apart := false }
def TypesKnownSaid : Prop := typesKnownRow.holds Try.pinned (OpenSpec.ofChange typesKnownSpec)

/-- ITS FALSE NEIGHBOUR: 'it returns false'. Refute it at one input. -/
def typesKnownWrong : ChangeSpec := { name := "typesKnown", fn := fun _ => fun
  | [] => { results := [.lit (.bool false)], args := [] }
  | _ => none }
def TypesKnownWrongFalsely : Prop := typesKnownRow.holds Try.pinned (OpenSpec.ofChange typesKnownWrong)

/- THE SECOND FORM. 'bulk': how many values and letters a reading holds, each counted each time it is reached (what is shared counts as often as it is met; a slice's spare places count too). A statement '..UptoSaid' is the law's where the arguments, and the package variables that the reading takes, are together of bulk at most 1048576: NARROWER than '..Said'. Prove '..Said' where nothing that the law and all that it calls make is longer than what came in: it says more and counts as full. Else prove '..UptoSaid'. A law counts once. -/
mutual
def uptoBulk {H : Type} : DataW H → Nat
  | .lit (.string bytes) => bytes.length + 1
  | .lit _ => 1
  | .nil => 1
  | .ptr d => uptoBulk d + 1
  | .slice elems spare => uptoBulkAll elems + uptoBulkAll spare + 1
  | .agg parts => uptoBulkAll parts + 1
  | .iface _ d => uptoBulk d + 1
  | .map entries => uptoBulkEntries entries + 1
  | .held _ => 1
def uptoBulkAll {H : Type} : List (DataW H) → Nat
  | [] => 0
  | d :: r => uptoBulk d + uptoBulkAll r
def uptoBulkEntries {H : Type} : List (Lit × DataW H) → Nat
  | [] => 0
  | x :: r => uptoBulkEntry x + uptoBulkEntries r
def uptoBulkEntry {H : Type} : Lit × DataW H → Nat
  | (.string bytes, d) => bytes.length + uptoBulk d + 1
  | (_, d) => uptoBulk d + 1
 end
def uptoSmall : (H : Type) → List (DataW H) → Bool := fun _ ds => decide (uptoBulkAll ds ≤ 1048576)
def OpenSpec.upto (s : _root_.Go.ChangeSpec) : _root_.Go.OpenSpec := { _root_.Go.OpenSpec.ofChange s with cond := some uptoSmall }

/-- 'vouchlaw20.TypesOf', WHERE WHAT IT READS IS OF BULK AT MOST 1048576: true; the input reads as it did. -/
def typesOfUptoRow : OpenClaim := { program := "ytaanmljlbhkonaa", sum := "cb4782cf5d55c9fd9c47bdf32a5a3a267f8fb5ae554a3a44460313ae066d4819", func := "vouch/vouchlaw20.TypesOf", spec := "typesOf", inPlace := ["internal/bytealg.IndexByteString", "internal/bytealg.IndexString"], unfollowed := true, recurses := true, named := ["internal/bytealg.MaxLen"], loops := true, apart := false, narrowed := true }
def TypesOfUptoSaid : Prop := typesOfUptoRow.holds Try.pinned (OpenSpec.upto typesOfSpec)

/-- 'vouchlaw20.TypesSimple', WHERE WHAT IT READS IS OF BULK AT MOST 1048576: true; the input reads as it did. -/
def typesSimpleUptoRow : OpenClaim := { program := "ytaanmljlbhkonaa", sum := "cb4782cf5d55c9fd9c47bdf32a5a3a267f8fb5ae554a3a44460313ae066d4819", func := "vouch/vouchlaw20.TypesSimple", spec := "typesSimple", inPlace := ["internal/bytealg.IndexByteString", "internal/bytealg.IndexString"], unfollowed := true, recurses := true, named := ["internal/bytealg.MaxLen"], loops := true, apart := false, narrowed := true }
def TypesSimpleUptoSaid : Prop := typesSimpleUptoRow.holds Try.pinned (OpenSpec.upto typesSimpleSpec)

/-- 'vouchlaw20.TypesClauses', WHERE WHAT IT READS IS OF BULK AT MOST 1048576: true; the input reads as it did. -/
def typesClausesUptoRow : OpenClaim := { program := "ytaanmljlbhkonaa", sum := "cb4782cf5d55c9fd9c47bdf32a5a3a267f8fb5ae554a3a44460313ae066d4819", func := "vouch/vouchlaw20.TypesClauses", spec := "typesClauses", inPlace := ["internal/bytealg.IndexByteString", "internal/bytealg.IndexString"], unfollowed := true, recurses := true, named := ["internal/bytealg.MaxLen"], loops := true, apart := false, narrowed := true }
def TypesClausesUptoSaid : Prop := typesClausesUptoRow.holds Try.pinned (OpenSpec.upto typesClausesSpec)

/-- 'vouchlaw20.TypesEach', WHERE WHAT IT READS IS OF BULK AT MOST 1048576: true; the input reads as it did. -/
def typesEachUptoRow : OpenClaim := { program := "ytaanmljlbhkonaa", sum := "cb4782cf5d55c9fd9c47bdf32a5a3a267f8fb5ae554a3a44460313ae066d4819", func := "vouch/vouchlaw20.TypesEach", spec := "typesEach", inPlace := ["internal/bytealg.IndexByteString", "internal/bytealg.IndexString"], unfollowed := true, recurses := true, named := ["internal/bytealg.MaxLen"], loops := true, apart := false, narrowed := true }
def TypesEachUptoSaid : Prop := typesEachUptoRow.holds Try.pinned (OpenSpec.upto typesEachSpec)

/-- 'vouchlaw20.TypesKnown', WHERE WHAT IT READS IS OF BULK AT MOST 1048576: true; the input reads as it did. -/
def typesKnownUptoRow : OpenClaim := { program := "ytaanmljlbhkonaa", sum := "cb4782cf5d55c9fd9c47bdf32a5a3a267f8fb5ae554a3a44460313ae066d4819", func := "vouch/vouchlaw20.TypesKnown", spec := "typesKnown", inPlace := ["internal/bytealg.IndexByteString", "internal/bytealg.IndexString"], unfollowed := true, recurses := true, named := ["internal/bytealg.MaxLen"], apart := false, narrowed := true }
def TypesKnownUptoSaid : Prop := typesKnownUptoRow.holds Try.pinned (OpenSpec.upto typesKnownSpec)

end Rows
end Go.Proofs.Ytaanmljlbhkonaa
