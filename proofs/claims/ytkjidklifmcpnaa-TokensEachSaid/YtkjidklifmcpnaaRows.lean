/-
  No cell of these rows narrows 'for every input' (looked for: loops, veiled, ifaces, maps, wideKeys, modest, calm, conditions, laid).
  DERIVED. THE GIVEN ROWS OF THIS SEAT. 6 by the template 'for every input the law returns true; each argument reads behind the call as it read before'; 0 by the template 'total and deterministic' (their statements: YtkjidklifmcpnaaTotals.lean).
  GIVEN WITH THE SEED: the statements are not yours to turn. If you find one false, say at which input.
  Laid BY PROGRAM, IN A SANDBOX (cutbox-rows.mjs): the forced cells as the released guide's own fill.sh prints them over the translation 84d26873a0c204e9… (all of the seat's roots in one cut). By AI agents, Wed Nov 11 2026. No macro, syntax, notation, axiom, sorry.
-/
import Derived.Test.YtkjidklifmcpnaaChecked
import GoSem.Claim
import GoSem.ClaimJoined
import GoSem.ClaimMapViews
import Derived.JoinedTies
import Derived.KernelRfl
namespace Go.Proofs.Ytkjidklifmcpnaa
/- THE CELL 'sum', in the pinned program and in every row, IS THE sha256 OF THE DUMP (.gsa) THAT YtkjidklifmcpnaaProg.lean LOADS. Nothing in Lean hashes anything: it is a label: what it is worth is what the hold of that sum in a sandbox is worth. -/
noncomputable def Try.pinned : Pinned := { name := "ytkjidklifmcpnaa", sum := "84d26873a0c204e9246a238deb3160567107b680b1081a614dcb83268eb2b512", checked := Try.checked }
namespace Rows
def none {H : Type} : Left H := { results := [], args := [] }

/-- 'vouchlaw14.TokensTile': WHATEVER THE INPUT: true; the input reads as it did. -/
def tokensTileSpec : ChangeSpec := { name := "tokensTile", fn := fun _ => fun
  | [d] => { results := [.lit (.bool true)], args := [d] }
  | _ => none }
def tokensTileRow : OpenClaim := { program := "ytkjidklifmcpnaa", sum := "84d26873a0c204e9246a238deb3160567107b680b1081a614dcb83268eb2b512", func := "vouch/vouchlaw14.TokensTile", spec := "tokensTile", inPlace := ["internal/bytealg.IndexByteString"], unfollowed := true, recurses := true, apart := false }
def TokensTileSaid : Prop := tokensTileRow.holds Try.pinned (OpenSpec.ofChange tokensTileSpec)

/-- ITS FALSE NEIGHBOUR: 'it returns false'. Refute it at one input. -/
def tokensTileWrong : ChangeSpec := { name := "tokensTile", fn := fun _ => fun
  | [d] => { results := [.lit (.bool false)], args := [d] }
  | _ => none }
def TokensTileWrongFalsely : Prop := tokensTileRow.holds Try.pinned (OpenSpec.ofChange tokensTileWrong)

/-- 'vouchlaw14.TokensBlank': WHATEVER THE INPUT: true; the input reads as it did. -/
def tokensBlankSpec : ChangeSpec := { name := "tokensBlank", fn := fun _ => fun
  | [d1, d2] => { results := [.lit (.bool true)], args := [d1, d2] }
  | _ => none }
def tokensBlankRow : OpenClaim := { program := "ytkjidklifmcpnaa", sum := "84d26873a0c204e9246a238deb3160567107b680b1081a614dcb83268eb2b512", func := "vouch/vouchlaw14.TokensBlank", spec := "tokensBlank", inPlace := ["internal/bytealg.IndexByteString"], unfollowed := true, recurses := true, apart := false }
def TokensBlankSaid : Prop := tokensBlankRow.holds Try.pinned (OpenSpec.ofChange tokensBlankSpec)

/-- ITS FALSE NEIGHBOUR: 'it returns false'. Refute it at one input. -/
def tokensBlankWrong : ChangeSpec := { name := "tokensBlank", fn := fun _ => fun
  | [d1, d2] => { results := [.lit (.bool false)], args := [d1, d2] }
  | _ => none }
def TokensBlankWrongFalsely : Prop := tokensBlankRow.holds Try.pinned (OpenSpec.ofChange tokensBlankWrong)

/-- 'vouchlaw14.TokensJoin': WHATEVER THE INPUT: true; the input reads as it did. -/
def tokensJoinSpec : ChangeSpec := { name := "tokensJoin", fn := fun _ => fun
  | [d1, d2] => { results := [.lit (.bool true)], args := [d1, d2] }
  | _ => none }
def tokensJoinRow : OpenClaim := { program := "ytkjidklifmcpnaa", sum := "84d26873a0c204e9246a238deb3160567107b680b1081a614dcb83268eb2b512", func := "vouch/vouchlaw14.TokensJoin", spec := "tokensJoin", inPlace := ["internal/bytealg.IndexByteString"], unfollowed := true, recurses := true, apart := false }
def TokensJoinSaid : Prop := tokensJoinRow.holds Try.pinned (OpenSpec.ofChange tokensJoinSpec)

/-- ITS FALSE NEIGHBOUR: 'it returns false'. Refute it at one input. -/
def tokensJoinWrong : ChangeSpec := { name := "tokensJoin", fn := fun _ => fun
  | [d1, d2] => { results := [.lit (.bool false)], args := [d1, d2] }
  | _ => none }
def TokensJoinWrongFalsely : Prop := tokensJoinRow.holds Try.pinned (OpenSpec.ofChange tokensJoinWrong)

/-- 'vouchlaw14.TokensEach': WHATEVER THE INPUT: true; the input reads as it did. -/
def tokensEachSpec : ChangeSpec := { name := "tokensEach", fn := fun _ => fun
  | [d1, d2] => { results := [.lit (.bool true)], args := [d1, d2] }
  | _ => none }
def tokensEachRow : OpenClaim := { program := "ytkjidklifmcpnaa", sum := "84d26873a0c204e9246a238deb3160567107b680b1081a614dcb83268eb2b512", func := "vouch/vouchlaw14.TokensEach", spec := "tokensEach", inPlace := ["internal/bytealg.IndexByteString"], unfollowed := true, recurses := true, apart := false }
def TokensEachSaid : Prop := tokensEachRow.holds Try.pinned (OpenSpec.ofChange tokensEachSpec)

/-- ITS FALSE NEIGHBOUR: 'it returns false'. Refute it at one input. -/
def tokensEachWrong : ChangeSpec := { name := "tokensEach", fn := fun _ => fun
  | [d1, d2] => { results := [.lit (.bool false)], args := [d1, d2] }
  | _ => none }
def TokensEachWrongFalsely : Prop := tokensEachRow.holds Try.pinned (OpenSpec.ofChange tokensEachWrong)

/-- 'vouchlaw14.TokensTexts': WHATEVER THE INPUT: true; the input reads as it did. -/
def tokensTextsSpec : ChangeSpec := { name := "tokensTexts", fn := fun _ => fun
  | [d] => { results := [.lit (.bool true)], args := [d] }
  | _ => none }
def tokensTextsRow : OpenClaim := { program := "ytkjidklifmcpnaa", sum := "84d26873a0c204e9246a238deb3160567107b680b1081a614dcb83268eb2b512", func := "vouch/vouchlaw14.TokensTexts", spec := "tokensTexts", inPlace := ["internal/bytealg.IndexByteString", "internal/abi.NoEscape"], unfollowed := true, recurses := true, apart := false }
def TokensTextsSaid : Prop := tokensTextsRow.holds Try.pinned (OpenSpec.ofChange tokensTextsSpec)

/-- ITS FALSE NEIGHBOUR: 'it returns false'. Refute it at one input. -/
def tokensTextsWrong : ChangeSpec := { name := "tokensTexts", fn := fun _ => fun
  | [d] => { results := [.lit (.bool false)], args := [d] }
  | _ => none }
def TokensTextsWrongFalsely : Prop := tokensTextsRow.holds Try.pinned (OpenSpec.ofChange tokensTextsWrong)

/-- 'vouchlaw14.TokensBack': WHATEVER THE INPUT: true; the input reads as it did. -/
def tokensBackSpec : ChangeSpec := { name := "tokensBack", fn := fun _ => fun
  | [d] => { results := [.lit (.bool true)], args := [d] }
  | _ => none }
def tokensBackRow : OpenClaim := { program := "ytkjidklifmcpnaa", sum := "84d26873a0c204e9246a238deb3160567107b680b1081a614dcb83268eb2b512", func := "vouch/vouchlaw14.TokensBack", spec := "tokensBack", inPlace := ["internal/bytealg.IndexByteString", "internal/abi.NoEscape"], unfollowed := true, recurses := true, apart := false }
def TokensBackSaid : Prop := tokensBackRow.holds Try.pinned (OpenSpec.ofChange tokensBackSpec)

/-- ITS FALSE NEIGHBOUR: 'it returns false'. Refute it at one input. -/
def tokensBackWrong : ChangeSpec := { name := "tokensBack", fn := fun _ => fun
  | [d] => { results := [.lit (.bool false)], args := [d] }
  | _ => none }
def TokensBackWrongFalsely : Prop := tokensBackRow.holds Try.pinned (OpenSpec.ofChange tokensBackWrong)

/- THE SECOND FORM. 'bulk': how many values and letters a reading holds, each counted each time it is reached (what is shared counts as often as it is met; a slice's spare places count too). A statement '..UptoSaid' is the law's where the arguments, and the package variables that the reading takes, are together of bulk at most 1048576: NARROWER than '..Said'. Prove '..Said' where nothing that the law and all that it calls make is longer than what came in: it says more and counts as full. Else prove '..UptoSaid'. A law counts once. -/
mutual
def uptoBulk {H : Type} : DataW H → Nat
  | .lit (.string bytes) => bytes.length + 1
  | .lit _ => 1
  | .nil => 1
  | .ptr d => uptoBulk d + 1
  | .slice elems spare => uptoBulkAll elems + uptoBulkAll spare + 1
  | .agg parts => uptoBulkAll parts + 1
  | .iface _ d => uptoBulk d + 1
  | .map entries => uptoBulkEntries entries + 1
  | .held _ => 1
def uptoBulkAll {H : Type} : List (DataW H) → Nat
  | [] => 0
  | d :: r => uptoBulk d + uptoBulkAll r
def uptoBulkEntries {H : Type} : List (Lit × DataW H) → Nat
  | [] => 0
  | x :: r => uptoBulkEntry x + uptoBulkEntries r
def uptoBulkEntry {H : Type} : Lit × DataW H → Nat
  | (.string bytes, d) => bytes.length + uptoBulk d + 1
  | (_, d) => uptoBulk d + 1
 end
def uptoSmall : (H : Type) → List (DataW H) → Bool := fun _ ds => decide (uptoBulkAll ds ≤ 1048576)
def OpenSpec.upto (s : _root_.Go.ChangeSpec) : _root_.Go.OpenSpec := { _root_.Go.OpenSpec.ofChange s with cond := some uptoSmall }

/-- 'vouchlaw14.TokensTile', WHERE WHAT IT READS IS OF BULK AT MOST 1048576: true; the input reads as it did. -/
def tokensTileUptoRow : OpenClaim := { program := "ytkjidklifmcpnaa", sum := "84d26873a0c204e9246a238deb3160567107b680b1081a614dcb83268eb2b512", func := "vouch/vouchlaw14.TokensTile", spec := "tokensTile", inPlace := ["internal/bytealg.IndexByteString"], unfollowed := true, recurses := true, apart := false, narrowed := true }
def TokensTileUptoSaid : Prop := tokensTileUptoRow.holds Try.pinned (OpenSpec.upto tokensTileSpec)

/-- 'vouchlaw14.TokensBlank', WHERE WHAT IT READS IS OF BULK AT MOST 1048576: true; the input reads as it did. -/
def tokensBlankUptoRow : OpenClaim := { program := "ytkjidklifmcpnaa", sum := "84d26873a0c204e9246a238deb3160567107b680b1081a614dcb83268eb2b512", func := "vouch/vouchlaw14.TokensBlank", spec := "tokensBlank", inPlace := ["internal/bytealg.IndexByteString"], unfollowed := true, recurses := true, apart := false, narrowed := true }
def TokensBlankUptoSaid : Prop := tokensBlankUptoRow.holds Try.pinned (OpenSpec.upto tokensBlankSpec)

/-- 'vouchlaw14.TokensJoin', WHERE WHAT IT READS IS OF BULK AT MOST 1048576: true; the input reads as it did. -/
def tokensJoinUptoRow : OpenClaim := { program := "ytkjidklifmcpnaa", sum := "84d26873a0c204e9246a238deb3160567107b680b1081a614dcb83268eb2b512", func := "vouch/vouchlaw14.TokensJoin", spec := "tokensJoin", inPlace := ["internal/bytealg.IndexByteString"], unfollowed := true, recurses := true, apart := false, narrowed := true }
def TokensJoinUptoSaid : Prop := tokensJoinUptoRow.holds Try.pinned (OpenSpec.upto tokensJoinSpec)

/-- 'vouchlaw14.TokensEach', WHERE WHAT IT READS IS OF BULK AT MOST 1048576: true; the input reads as it did. -/
def tokensEachUptoRow : OpenClaim := { program := "ytkjidklifmcpnaa", sum := "84d26873a0c204e9246a238deb3160567107b680b1081a614dcb83268eb2b512", func := "vouch/vouchlaw14.TokensEach", spec := "tokensEach", inPlace := ["internal/bytealg.IndexByteString"], unfollowed := true, recurses := true, apart := false, narrowed := true }
def TokensEachUptoSaid : Prop := tokensEachUptoRow.holds Try.pinned (OpenSpec.upto tokensEachSpec)

/-- 'vouchlaw14.TokensTexts', WHERE WHAT IT READS IS OF BULK AT MOST 1048576: true; the input reads as it did. -/
def tokensTextsUptoRow : OpenClaim := { program := "ytkjidklifmcpnaa", sum := "84d26873a0c204e9246a238deb3160567107b680b1081a614dcb83268eb2b512", func := "vouch/vouchlaw14.TokensTexts", spec := "tokensTexts", inPlace := ["internal/bytealg.IndexByteString", "internal/abi.NoEscape"], unfollowed := true, recurses := true, apart := false, narrowed := true }
def TokensTextsUptoSaid : Prop := tokensTextsUptoRow.holds Try.pinned (OpenSpec.upto tokensTextsSpec)

/-- 'vouchlaw14.TokensBack', WHERE WHAT IT READS IS OF BULK AT MOST 1048576: true; the input reads as it did. -/
def tokensBackUptoRow : OpenClaim := { program := "ytkjidklifmcpnaa", sum := "84d26873a0c204e9246a238deb3160567107b680b1081a614dcb83268eb2b512", func := "vouch/vouchlaw14.TokensBack", spec := "tokensBack", inPlace := ["internal/bytealg.IndexByteString", "internal/abi.NoEscape"], unfollowed := true, recurses := true, apart := false, narrowed := true }
def TokensBackUptoSaid : Prop := tokensBackUptoRow.holds Try.pinned (OpenSpec.upto tokensBackSpec)

end Rows
end Go.Proofs.Ytkjidklifmcpnaa
