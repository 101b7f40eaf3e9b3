/-
  NARROWER THAN 'FOR EVERY INPUT', by the rows' own cells (each row's printed sentence says how): CompileLics: loops · CompileConds: loops · CompileRows: loops · CompileTexts: loops · CompileWrites: loops.
  DERIVED. THE GIVEN ROWS OF THIS SEAT. 5 by the template 'for every input the law returns true; each argument reads behind the call as it read before'; 0 by the template 'total and deterministic' (their statements: YthmlninecfjjgaaTotals.lean).
  GIVEN WITH THE SEED: the statements are not yours to turn. If you find one false, say at which input.
  Laid BY PROGRAM, IN A SANDBOX (cutbox-rows.mjs): the forced cells as the released guide's own fill.sh prints them over the translation 7417903348db4885… (all of the seat's roots in one cut). By AI agents, Wed Nov 11 2026. No macro, syntax, notation, axiom, sorry.
-/
import Derived.Test.YthmlninecfjjgaaChecked
import GoSem.Claim
import GoSem.ClaimJoined
import GoSem.ClaimMapViews
import Derived.JoinedTies
import Derived.KernelRfl
namespace Go.Proofs.Ythmlninecfjjgaa
/- THE CELL 'sum', in the pinned program and in every row, IS THE sha256 OF THE DUMP (.gsa) THAT YthmlninecfjjgaaProg.lean LOADS. Nothing in Lean hashes anything: it is a label: what it is worth is what the hold of that sum in a sandbox is worth. -/
noncomputable def Try.pinned : Pinned := { name := "ythmlninecfjjgaa", sum := "7417903348db48855bb3e18073dc8b403a497e65fe4565c6794b3fd543eca77a", checked := Try.checked }
namespace Rows
def none {H : Type} : Left H := { results := [], args := [] }

/-- 'vouchlaw22.CompileLics': WHATEVER THE INPUT: true; the input reads as it did. -/
def compileLicsSpec : ChangeSpec := { name := "compileLics", fn := fun _ => fun
  | [d] => { results := [.lit (.bool true)], args := [d] }
  | _ => none }
def compileLicsRow : OpenClaim := { program := "ythmlninecfjjgaa", sum := "7417903348db48855bb3e18073dc8b403a497e65fe4565c6794b3fd543eca77a", func := "vouch/vouchlaw22.CompileLics", spec := "compileLics", unfollowed := true, recurses := true, loops := true, apart := false }
def CompileLicsSaid : Prop := compileLicsRow.holds Try.pinned (OpenSpec.ofChange compileLicsSpec)

/-- ITS FALSE NEIGHBOUR: 'it returns false'. Refute it at one input. -/
def compileLicsWrong : ChangeSpec := { name := "compileLics", fn := fun _ => fun
  | [d] => { results := [.lit (.bool false)], args := [d] }
  | _ => none }
def CompileLicsWrongFalsely : Prop := compileLicsRow.holds Try.pinned (OpenSpec.ofChange compileLicsWrong)

/-- 'vouchlaw22.CompileConds': WHATEVER THE INPUT: true; the input reads as it did. -/
def compileCondsSpec : ChangeSpec := { name := "compileConds", fn := fun _ => fun
  | [d] => { results := [.lit (.bool true)], args := [d] }
  | _ => none }
def compileCondsRow : OpenClaim := { program := "ythmlninecfjjgaa", sum := "7417903348db48855bb3e18073dc8b403a497e65fe4565c6794b3fd543eca77a", func := "vouch/vouchlaw22.CompileConds", spec := "compileConds", inPlace := ["internal/bytealg.IndexByteString", "internal/bytealg.IndexString"], unfollowed := true, recurses := true, named := ["internal/bytealg.MaxLen"], loops := true, apart := false }
def CompileCondsSaid : Prop := compileCondsRow.holds Try.pinned (OpenSpec.ofChange compileCondsSpec)

/-- ITS FALSE NEIGHBOUR: 'it returns false'. Refute it at one input. -/
def compileCondsWrong : ChangeSpec := { name := "compileConds", fn := fun _ => fun
  | [d] => { results := [.lit (.bool false)], args := [d] }
  | _ => none }
def CompileCondsWrongFalsely : Prop := compileCondsRow.holds Try.pinned (OpenSpec.ofChange compileCondsWrong)

/-- 'vouchlaw22.CompileRows': WHATEVER THE INPUT: true; the input reads as it did. -/
def compileRowsSpec : ChangeSpec := { name := "compileRows", fn := fun _ => fun
  | [d1, d2] => { results := [.lit (.bool true)], args := [d1, d2] }
  | _ => none }
def compileRowsRow : OpenClaim := { program := "ythmlninecfjjgaa", sum := "7417903348db48855bb3e18073dc8b403a497e65fe4565c6794b3fd543eca77a", func := "vouch/vouchlaw22.CompileRows", spec := "compileRows", inPlace := ["internal/bytealg.IndexByteString", "internal/bytealg.IndexString"], unfollowed := true, recurses := true, named := ["internal/bytealg.MaxLen"], loops := true, apart := false }
def CompileRowsSaid : Prop := compileRowsRow.holds Try.pinned (OpenSpec.ofChange compileRowsSpec)

/-- ITS FALSE NEIGHBOUR: 'it returns false'. Refute it at one input. -/
def compileRowsWrong : ChangeSpec := { name := "compileRows", fn := fun _ => fun
  | [d1, d2] => { results := [.lit (.bool false)], args := [d1, d2] }
  | _ => none }
def CompileRowsWrongFalsely : Prop := compileRowsRow.holds Try.pinned (OpenSpec.ofChange compileRowsWrong)

/-- 'vouchlaw22.CompileTexts': WHATEVER THE INPUT: true; the input reads as it did. -/
def compileTextsSpec : ChangeSpec := { name := "compileTexts", fn := fun _ => fun
  | [d] => { results := [.lit (.bool true)], args := [d] }
  | _ => none }
def compileTextsRow : OpenClaim := { program := "ythmlninecfjjgaa", sum := "7417903348db48855bb3e18073dc8b403a497e65fe4565c6794b3fd543eca77a", func := "vouch/vouchlaw22.CompileTexts", spec := "compileTexts", inPlace := ["internal/bytealg.IndexByteString", "internal/bytealg.IndexString"], unfollowed := true, recurses := true, named := ["internal/bytealg.MaxLen"], loops := true, apart := false }
def CompileTextsSaid : Prop := compileTextsRow.holds Try.pinned (OpenSpec.ofChange compileTextsSpec)

/-- ITS FALSE NEIGHBOUR: 'it returns false'. Refute it at one input. -/
def compileTextsWrong : ChangeSpec := { name := "compileTexts", fn := fun _ => fun
  | [d] => { results := [.lit (.bool false)], args := [d] }
  | _ => none }
def CompileTextsWrongFalsely : Prop := compileTextsRow.holds Try.pinned (OpenSpec.ofChange compileTextsWrong)

/-- 'vouchlaw22.CompileWrites': WHATEVER THE INPUT: true; the input reads as it did. -/
def compileWritesSpec : ChangeSpec := { name := "compileWrites", fn := fun _ => fun
  | [d1, d2] => { results := [.lit (.bool true)], args := [d1, d2] }
  | _ => none }
def compileWritesRow : OpenClaim := { program := "ythmlninecfjjgaa", sum := "7417903348db48855bb3e18073dc8b403a497e65fe4565c6794b3fd543eca77a", func := "vouch/vouchlaw22.CompileWrites", spec := "compileWrites", inPlace := ["internal/bytealg.IndexByteString", "internal/bytealg.IndexString"], unfollowed := true, recurses := true, named := ["internal/bytealg.MaxLen"], loops := true, apart := false }
def CompileWritesSaid : Prop := compileWritesRow.holds Try.pinned (OpenSpec.ofChange compileWritesSpec)

/-- ITS FALSE NEIGHBOUR: 'it returns false'. Refute it at one input. -/
def compileWritesWrong : ChangeSpec := { name := "compileWrites", fn := fun _ => fun
  | [d1, d2] => { results := [.lit (.bool false)], args := [d1, d2] }
  | _ => none }
def CompileWritesWrongFalsely : Prop := compileWritesRow.holds Try.pinned (OpenSpec.ofChange compileWritesWrong)

/- THE SECOND FORM. 'bulk': how many values and letters a reading holds, each counted each time it is reached (what is shared counts as often as it is met; a slice's spare places count too). A statement '..UptoSaid' is the law's where the arguments, and the package variables that the reading takes, are together of bulk at most 1048576: NARROWER than '..Said'. Prove '..Said' where nothing that the law and all that it calls make is longer than what came in: it says more and counts as full. Else prove '..UptoSaid'. A law counts once. -/
mutual
def uptoBulk {H : Type} : DataW H → Nat
  | .lit (.string bytes) => bytes.length + 1
  | .lit _ => 1
  | .nil => 1
  | .ptr d => uptoBulk d + 1
  | .slice elems spare => uptoBulkAll elems + uptoBulkAll spare + 1
  | .agg parts => uptoBulkAll parts + 1
  | .iface _ d => uptoBulk d + 1
  | .map entries => uptoBulkEntries entries + 1
  | .held _ => 1
def uptoBulkAll {H : Type} : List (DataW H) → Nat
  | [] => 0
  | d :: r => uptoBulk d + uptoBulkAll r
def uptoBulkEntries {H : Type} : List (Lit × DataW H) → Nat
  | [] => 0
  | x :: r => uptoBulkEntry x + uptoBulkEntries r
def uptoBulkEntry {H : Type} : Lit × DataW H → Nat
  | (.string bytes, d) => bytes.length + uptoBulk d + 1
  | (_, d) => uptoBulk d + 1
 end
def uptoSmall : (H : Type) → List (DataW H) → Bool := fun _ ds => decide (uptoBulkAll ds ≤ 1048576)
def OpenSpec.upto (s : _root_.Go.ChangeSpec) : _root_.Go.OpenSpec := { _root_.Go.OpenSpec.ofChange s with cond := some uptoSmall }

/-- 'vouchlaw22.CompileLics', WHERE WHAT IT READS IS OF BULK AT MOST 1048576: true; the input reads as it did. -/
def compileLicsUptoRow : OpenClaim := { program := "ythmlninecfjjgaa", sum := "7417903348db48855bb3e18073dc8b403a497e65fe4565c6794b3fd543eca77a", func := "vouch/vouchlaw22.CompileLics", spec := "compileLics", unfollowed := true, recurses := true, loops := true, apart := false, narrowed := true }
def CompileLicsUptoSaid : Prop := compileLicsUptoRow.holds Try.pinned (OpenSpec.upto compileLicsSpec)

/-- 'vouchlaw22.CompileConds', WHERE WHAT IT READS IS OF BULK AT MOST 1048576: true; the input reads as it did. -/
def compileCondsUptoRow : OpenClaim := { program := "ythmlninecfjjgaa", sum := "7417903348db48855bb3e18073dc8b403a497e65fe4565c6794b3fd543eca77a", func := "vouch/vouchlaw22.CompileConds", spec := "compileConds", inPlace := ["internal/bytealg.IndexByteString", "internal/bytealg.IndexString"], unfollowed := true, recurses := true, named := ["internal/bytealg.MaxLen"], loops := true, apart := false, narrowed := true }
def CompileCondsUptoSaid : Prop := compileCondsUptoRow.holds Try.pinned (OpenSpec.upto compileCondsSpec)

/-- 'vouchlaw22.CompileRows', WHERE WHAT IT READS IS OF BULK AT MOST 1048576: true; the input reads as it did. -/
def compileRowsUptoRow : OpenClaim := { program := "ythmlninecfjjgaa", sum := "7417903348db48855bb3e18073dc8b403a497e65fe4565c6794b3fd543eca77a", func := "vouch/vouchlaw22.CompileRows", spec := "compileRows", inPlace := ["internal/bytealg.IndexByteString", "internal/bytealg.IndexString"], unfollowed := true, recurses := true, named := ["internal/bytealg.MaxLen"], loops := true, apart := false, narrowed := true }
def CompileRowsUptoSaid : Prop := compileRowsUptoRow.holds Try.pinned (OpenSpec.upto compileRowsSpec)

/-- 'vouchlaw22.CompileTexts', WHERE WHAT IT READS IS OF BULK AT MOST 1048576: true; the input reads as it did. -/
def compileTextsUptoRow : OpenClaim := { program := "ythmlninecfjjgaa", sum := "7417903348db48855bb3e18073dc8b403a497e65fe4565c6794b3fd543eca77a", func := "vouch/vouchlaw22.CompileTexts", spec := "compileTexts", inPlace := ["internal/bytealg.IndexByteString", "internal/bytealg.IndexString"], unfollowed := true, recurses := true, named := ["internal/bytealg.MaxLen"], loops := true, apart := false, narrowed := true }
def CompileTextsUptoSaid : Prop := compileTextsUptoRow.holds Try.pinned (OpenSpec.upto compileTextsSpec)

/-- 'vouchlaw22.CompileWrites', WHERE WHAT IT READS IS OF BULK AT MOST 1048576: true; the input reads as it did. -/
def compileWritesUptoRow : OpenClaim := { program := "ythmlninecfjjgaa", sum := "7417903348db48855bb3e18073dc8b403a497e65fe4565c6794b3fd543eca77a", func := "vouch/vouchlaw22.CompileWrites", spec := "compileWrites", inPlace := ["internal/bytealg.IndexByteString", "internal/bytealg.IndexString"], unfollowed := true, recurses := true, named := ["internal/bytealg.MaxLen"], loops := true, apart := false, narrowed := true }
def CompileWritesUptoSaid : Prop := compileWritesUptoRow.holds Try.pinned (OpenSpec.upto compileWritesSpec)

end Rows
end Go.Proofs.Ythmlninecfjjgaa
