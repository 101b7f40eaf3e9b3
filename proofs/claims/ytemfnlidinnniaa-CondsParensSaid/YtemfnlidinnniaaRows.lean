/-
  No cell of these rows narrows 'for every input' (looked for: loops, veiled, ifaces, maps, wideKeys, modest, calm, conditions, laid).
  DERIVED. THE GIVEN ROWS OF THIS SEAT. 5 by the template 'for every input the law returns true; each argument reads behind the call as it read before'; 0 by the template 'total and deterministic' (their statements: YtemfnlidinnniaaTotals.lean).
  GIVEN WITH THE SEED: the statements are not yours to turn. If you find one false, say at which input.
  Laid BY PROGRAM, IN A SANDBOX (cutbox-rows.mjs): the forced cells as the released guide's own fill.sh prints them over the translation f05f0b472f516cf3… (all of the seat's roots in one cut). By AI agents, Wed Nov 11 2026. No macro, syntax, notation, axiom, sorry.
-/
import Derived.Test.YtemfnlidinnniaaChecked
import GoSem.Claim
import GoSem.ClaimJoined
import GoSem.ClaimMapViews
import Derived.JoinedTies
import Derived.KernelRfl
namespace Go.Proofs.Ytemfnlidinnniaa
/- THE CELL 'sum', in the pinned program and in every row, IS THE sha256 OF THE DUMP (.gsa) THAT YtemfnlidinnniaaProg.lean LOADS. Nothing in Lean hashes anything: it is a label: what it is worth is what the hold of that sum in a sandbox is worth. -/
noncomputable def Try.pinned : Pinned := { name := "ytemfnlidinnniaa", sum := "f05f0b472f516cf3ff139a48043324d866f7ddc30f0006d398d09c0a39c69b03", checked := Try.checked }
namespace Rows
def none {H : Type} : Left H := { results := [], args := [] }

/-- 'vouchlaw15.CondsLines': WHATEVER THE INPUT: true; the input reads as it did. -/
def condsLinesSpec : ChangeSpec := { name := "condsLines", fn := fun _ => fun
  | [d1, d2] => { results := [.lit (.bool true)], args := [d1, d2] }
  | _ => none }
def condsLinesRow : OpenClaim := { program := "ytemfnlidinnniaa", sum := "f05f0b472f516cf3ff139a48043324d866f7ddc30f0006d398d09c0a39c69b03", func := "vouch/vouchlaw15.CondsLines", spec := "condsLines", inPlace := ["internal/bytealg.IndexByteString"], unfollowed := true, recurses := true, apart := false }
def CondsLinesSaid : Prop := condsLinesRow.holds Try.pinned (OpenSpec.ofChange condsLinesSpec)

/-- ITS FALSE NEIGHBOUR: 'it returns false'. Refute it at one input. -/
def condsLinesWrong : ChangeSpec := { name := "condsLines", fn := fun _ => fun
  | [d1, d2] => { results := [.lit (.bool false)], args := [d1, d2] }
  | _ => none }
def CondsLinesWrongFalsely : Prop := condsLinesRow.holds Try.pinned (OpenSpec.ofChange condsLinesWrong)

/-- 'vouchlaw15.CondsRows': WHATEVER THE INPUT: true; the input reads as it did. -/
def condsRowsSpec : ChangeSpec := { name := "condsRows", fn := fun _ => fun
  | [d1, d2] => { results := [.lit (.bool true)], args := [d1, d2] }
  | _ => none }
def condsRowsRow : OpenClaim := { program := "ytemfnlidinnniaa", sum := "f05f0b472f516cf3ff139a48043324d866f7ddc30f0006d398d09c0a39c69b03", func := "vouch/vouchlaw15.CondsRows", spec := "condsRows", inPlace := ["internal/bytealg.IndexByteString"], unfollowed := true, recurses := true, apart := false }
def CondsRowsSaid : Prop := condsRowsRow.holds Try.pinned (OpenSpec.ofChange condsRowsSpec)

/-- ITS FALSE NEIGHBOUR: 'it returns false'. Refute it at one input. -/
def condsRowsWrong : ChangeSpec := { name := "condsRows", fn := fun _ => fun
  | [d1, d2] => { results := [.lit (.bool false)], args := [d1, d2] }
  | _ => none }
def CondsRowsWrongFalsely : Prop := condsRowsRow.holds Try.pinned (OpenSpec.ofChange condsRowsWrong)

/-- 'vouchlaw15.CondsParens': WHATEVER THE INPUT: true; the input reads as it did. -/
def condsParensSpec : ChangeSpec := { name := "condsParens", fn := fun _ => fun
  | [d1, d2] => { results := [.lit (.bool true)], args := [d1, d2] }
  | _ => none }
def condsParensRow : OpenClaim := { program := "ytemfnlidinnniaa", sum := "f05f0b472f516cf3ff139a48043324d866f7ddc30f0006d398d09c0a39c69b03", func := "vouch/vouchlaw15.CondsParens", spec := "condsParens", inPlace := ["internal/bytealg.IndexByteString", "internal/abi.NoEscape"], unfollowed := true, recurses := true, apart := false }
def CondsParensSaid : Prop := condsParensRow.holds Try.pinned (OpenSpec.ofChange condsParensSpec)

/-- ITS FALSE NEIGHBOUR: 'it returns false'. Refute it at one input. -/
def condsParensWrong : ChangeSpec := { name := "condsParens", fn := fun _ => fun
  | [d1, d2] => { results := [.lit (.bool false)], args := [d1, d2] }
  | _ => none }
def CondsParensWrongFalsely : Prop := condsParensRow.holds Try.pinned (OpenSpec.ofChange condsParensWrong)

/-- 'vouchlaw15.CondsBlank': WHATEVER THE INPUT: true; the input reads as it did. -/
def condsBlankSpec : ChangeSpec := { name := "condsBlank", fn := fun _ => fun
  | [d] => { results := [.lit (.bool true)], args := [d] }
  | _ => none }
def condsBlankRow : OpenClaim := { program := "ytemfnlidinnniaa", sum := "f05f0b472f516cf3ff139a48043324d866f7ddc30f0006d398d09c0a39c69b03", func := "vouch/vouchlaw15.CondsBlank", spec := "condsBlank", inPlace := ["internal/bytealg.IndexByteString", "internal/bytealg.IndexString"], unfollowed := true, recurses := true, named := ["internal/bytealg.MaxLen"], apart := false }
def CondsBlankSaid : Prop := condsBlankRow.holds Try.pinned (OpenSpec.ofChange condsBlankSpec)

/-- ITS FALSE NEIGHBOUR: 'it returns false'. Refute it at one input. -/
def condsBlankWrong : ChangeSpec := { name := "condsBlank", fn := fun _ => fun
  | [d] => { results := [.lit (.bool false)], args := [d] }
  | _ => none }
def CondsBlankWrongFalsely : Prop := condsBlankRow.holds Try.pinned (OpenSpec.ofChange condsBlankWrong)

/-- 'vouchlaw15.CondsKnown': WHATEVER THE INPUT: true; the input reads as it did. -/
def condsKnownSpec : ChangeSpec := { name := "condsKnown", fn := fun _ => fun
  | [] => { results := [.lit (.bool true)], args := [] }
  | _ => none }
def condsKnownRow : OpenClaim := { program := "ytemfnlidinnniaa", sum := "f05f0b472f516cf3ff139a48043324d866f7ddc30f0006d398d09c0a39c69b03", func := "vouch/vouchlaw15.CondsKnown", spec := "condsKnown", inPlace := ["internal/bytealg.IndexByteString", "internal/bytealg.IndexString"], unfollowed := true, recurses := true, named := ["internal/bytealg.MaxLen"], apart := false }
def CondsKnownSaid : Prop := condsKnownRow.holds Try.pinned (OpenSpec.ofChange condsKnownSpec)

/-- ITS FALSE NEIGHBOUR: 'it returns false'. Refute it at one input. -/
def condsKnownWrong : ChangeSpec := { name := "condsKnown", fn := fun _ => fun
  | [] => { results := [.lit (.bool false)], args := [] }
  | _ => none }
def CondsKnownWrongFalsely : Prop := condsKnownRow.holds Try.pinned (OpenSpec.ofChange condsKnownWrong)

/- THE SECOND FORM. 'bulk': how many values and letters a reading holds, each counted each time it is reached (what is shared counts as often as it is met; a slice's spare places count too). A statement '..UptoSaid' is the law's where the arguments, and the package variables that the reading takes, are together of bulk at most 1048576: NARROWER than '..Said'. Prove '..Said' where nothing that the law and all that it calls make is longer than what came in: it says more and counts as full. Else prove '..UptoSaid'. A law counts once. -/
mutual
def uptoBulk {H : Type} : DataW H → Nat
  | .lit (.string bytes) => bytes.length + 1
  | .lit _ => 1
  | .nil => 1
  | .ptr d => uptoBulk d + 1
  | .slice elems spare => uptoBulkAll elems + uptoBulkAll spare + 1
  | .agg parts => uptoBulkAll parts + 1
  | .iface _ d => uptoBulk d + 1
  | .map entries => uptoBulkEntries entries + 1
  | .held _ => 1
def uptoBulkAll {H : Type} : List (DataW H) → Nat
  | [] => 0
  | d :: r => uptoBulk d + uptoBulkAll r
def uptoBulkEntries {H : Type} : List (Lit × DataW H) → Nat
  | [] => 0
  | x :: r => uptoBulkEntry x + uptoBulkEntries r
def uptoBulkEntry {H : Type} : Lit × DataW H → Nat
  | (.string bytes, d) => bytes.length + uptoBulk d + 1
  | (_, d) => uptoBulk d + 1
 end
def uptoSmall : (H : Type) → List (DataW H) → Bool := fun _ ds => decide (uptoBulkAll ds ≤ 1048576)
def OpenSpec.upto (s : _root_.Go.ChangeSpec) : _root_.Go.OpenSpec := { _root_.Go.OpenSpec.ofChange s with cond := some uptoSmall }

/-- 'vouchlaw15.CondsLines', WHERE WHAT IT READS IS OF BULK AT MOST 1048576: true; the input reads as it did. -/
def condsLinesUptoRow : OpenClaim := { program := "ytemfnlidinnniaa", sum := "f05f0b472f516cf3ff139a48043324d866f7ddc30f0006d398d09c0a39c69b03", func := "vouch/vouchlaw15.CondsLines", spec := "condsLines", inPlace := ["internal/bytealg.IndexByteString"], unfollowed := true, recurses := true, apart := false, narrowed := true }
def CondsLinesUptoSaid : Prop := condsLinesUptoRow.holds Try.pinned (OpenSpec.upto condsLinesSpec)

/-- 'vouchlaw15.CondsRows', WHERE WHAT IT READS IS OF BULK AT MOST 1048576: true; the input reads as it did. -/
def condsRowsUptoRow : OpenClaim := { program := "ytemfnlidinnniaa", sum := "f05f0b472f516cf3ff139a48043324d866f7ddc30f0006d398d09c0a39c69b03", func := "vouch/vouchlaw15.CondsRows", spec := "condsRows", inPlace := ["internal/bytealg.IndexByteString"], unfollowed := true, recurses := true, apart := false, narrowed := true }
def CondsRowsUptoSaid : Prop := condsRowsUptoRow.holds Try.pinned (OpenSpec.upto condsRowsSpec)

/-- 'vouchlaw15.CondsParens', WHERE WHAT IT READS IS OF BULK AT MOST 1048576: true; the input reads as it did. -/
def condsParensUptoRow : OpenClaim := { program := "ytemfnlidinnniaa", sum := "f05f0b472f516cf3ff139a48043324d866f7ddc30f0006d398d09c0a39c69b03", func := "vouch/vouchlaw15.CondsParens", spec := "condsParens", inPlace := ["internal/bytealg.IndexByteString", "internal/abi.NoEscape"], unfollowed := true, recurses := true, apart := false, narrowed := true }
def CondsParensUptoSaid : Prop := condsParensUptoRow.holds Try.pinned (OpenSpec.upto condsParensSpec)

/-- 'vouchlaw15.CondsBlank', WHERE WHAT IT READS IS OF BULK AT MOST 1048576: true; the input reads as it did. -/
def condsBlankUptoRow : OpenClaim := { program := "ytemfnlidinnniaa", sum := "f05f0b472f516cf3ff139a48043324d866f7ddc30f0006d398d09c0a39c69b03", func := "vouch/vouchlaw15.CondsBlank", spec := "condsBlank", inPlace := ["internal/bytealg.IndexByteString", "internal/bytealg.IndexString"], unfollowed := true, recurses := true, named := ["internal/bytealg.MaxLen"], apart := false, narrowed := true }
def CondsBlankUptoSaid : Prop := condsBlankUptoRow.holds Try.pinned (OpenSpec.upto condsBlankSpec)

/-- 'vouchlaw15.CondsKnown', WHERE WHAT IT READS IS OF BULK AT MOST 1048576: true; the input reads as it did. -/
def condsKnownUptoRow : OpenClaim := { program := "ytemfnlidinnniaa", sum := "f05f0b472f516cf3ff139a48043324d866f7ddc30f0006d398d09c0a39c69b03", func := "vouch/vouchlaw15.CondsKnown", spec := "condsKnown", inPlace := ["internal/bytealg.IndexByteString", "internal/bytealg.IndexString"], unfollowed := true, recurses := true, named := ["internal/bytealg.MaxLen"], apart := false, narrowed := true }
def CondsKnownUptoSaid : Prop := condsKnownUptoRow.holds Try.pinned (OpenSpec.upto condsKnownSpec)

end Rows
end Go.Proofs.Ytemfnlidinnniaa
