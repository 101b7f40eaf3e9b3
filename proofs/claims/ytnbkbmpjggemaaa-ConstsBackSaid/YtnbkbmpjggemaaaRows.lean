/-
  No cell of these rows narrows 'for every input' (looked for: loops, veiled, ifaces, maps, wideKeys, modest, calm, conditions, laid).
  DERIVED. THE GIVEN ROWS OF THIS SEAT. 4 by the template 'for every input the law returns true; each argument reads behind the call as it read before'; 0 by the template 'total and deterministic' (their statements: YtnbkbmpjggemaaaTotals.lean).
  GIVEN WITH THE SEED: the statements are not yours to turn. If you find one false, say at which input.
  Laid BY PROGRAM, IN A SANDBOX (cutbox-rows.mjs): the forced cells as the released guide's own fill.sh prints them over the translation c7bcd9251826e48c… (all of the seat's roots in one cut). By AI agents, Wed Nov 11 2026. No macro, syntax, notation, axiom, sorry.
-/
import Derived.Test.YtnbkbmpjggemaaaChecked
import GoSem.Claim
import GoSem.ClaimJoined
import GoSem.ClaimMapViews
import Derived.JoinedTies
import Derived.KernelRfl
namespace Go.Proofs.Ytnbkbmpjggemaaa
/- THE CELL 'sum', in the pinned program and in every row, IS THE sha256 OF THE DUMP (.gsa) THAT YtnbkbmpjggemaaaProg.lean LOADS. Nothing in Lean hashes anything: it is a label: what it is worth is what the hold of that sum in a sandbox is worth. -/
noncomputable def Try.pinned : Pinned := { name := "ytnbkbmpjggemaaa", sum := "c7bcd9251826e48c05d0d210172bdd5dd6dbaed4cc1b21fcdb18f31c2e3bae25", checked := Try.checked }
namespace Rows
def none {H : Type} : Left H := { results := [], args := [] }

/-- 'vouchlaw17.ConstsJoin': WHATEVER THE INPUT: true; the input reads as it did. -/
def constsJoinSpec : ChangeSpec := { name := "constsJoin", fn := fun _ => fun
  | [d1, d2] => { results := [.lit (.bool true)], args := [d1, d2] }
  | _ => none }
def constsJoinRow : OpenClaim := { program := "ytnbkbmpjggemaaa", sum := "c7bcd9251826e48c05d0d210172bdd5dd6dbaed4cc1b21fcdb18f31c2e3bae25", func := "vouch/vouchlaw17.ConstsJoin", spec := "constsJoin", inPlace := ["internal/bytealg.IndexByteString"], unfollowed := true, recurses := true, apart := false }
def ConstsJoinSaid : Prop := constsJoinRow.holds Try.pinned (OpenSpec.ofChange constsJoinSpec)

/-- ITS FALSE NEIGHBOUR: 'it returns false'. Refute it at one input. -/
def constsJoinWrong : ChangeSpec := { name := "constsJoin", fn := fun _ => fun
  | [d1, d2] => { results := [.lit (.bool false)], args := [d1, d2] }
  | _ => none }
def ConstsJoinWrongFalsely : Prop := constsJoinRow.holds Try.pinned (OpenSpec.ofChange constsJoinWrong)

/-- 'vouchlaw17.ConstsKnown': WHATEVER THE INPUT: true; the input reads as it did. -/
def constsKnownSpec : ChangeSpec := { name := "constsKnown", fn := fun _ => fun
  | [] => { results := [.lit (.bool true)], args := [] }
  | _ => none }
def constsKnownRow : OpenClaim := { program := "ytnbkbmpjggemaaa", sum := "c7bcd9251826e48c05d0d210172bdd5dd6dbaed4cc1b21fcdb18f31c2e3bae25", func := "vouch/vouchlaw17.ConstsKnown", spec := "constsKnown", inPlace := ["internal/bytealg.IndexByteString"], unfollowed := true, recurses := true, apart := false }
def ConstsKnownSaid : Prop := constsKnownRow.holds Try.pinned (OpenSpec.ofChange constsKnownSpec)

/-- ITS FALSE NEIGHBOUR: 'it returns false'. Refute it at one input. -/
def constsKnownWrong : ChangeSpec := { name := "constsKnown", fn := fun _ => fun
  | [] => { results := [.lit (.bool false)], args := [] }
  | _ => none }
def ConstsKnownWrongFalsely : Prop := constsKnownRow.holds Try.pinned (OpenSpec.ofChange constsKnownWrong)

/-- 'vouchlaw17.ConstsUnlike': WHATEVER THE INPUT: true; the input reads as it did. -/
def constsUnlikeSpec : ChangeSpec := { name := "constsUnlike", fn := fun _ => fun
  | [d] => { results := [.lit (.bool true)], args := [d] }
  | _ => none }
def constsUnlikeRow : OpenClaim := { program := "ytnbkbmpjggemaaa", sum := "c7bcd9251826e48c05d0d210172bdd5dd6dbaed4cc1b21fcdb18f31c2e3bae25", func := "vouch/vouchlaw17.ConstsUnlike", spec := "constsUnlike", inPlace := ["internal/bytealg.IndexByteString"], unfollowed := true, recurses := true, apart := false }
def ConstsUnlikeSaid : Prop := constsUnlikeRow.holds Try.pinned (OpenSpec.ofChange constsUnlikeSpec)

/-- ITS FALSE NEIGHBOUR: 'it returns false'. Refute it at one input. -/
def constsUnlikeWrong : ChangeSpec := { name := "constsUnlike", fn := fun _ => fun
  | [d] => { results := [.lit (.bool false)], args := [d] }
  | _ => none }
def ConstsUnlikeWrongFalsely : Prop := constsUnlikeRow.holds Try.pinned (OpenSpec.ofChange constsUnlikeWrong)

/-- 'vouchlaw17.ConstsBack': WHATEVER THE INPUT: true; the input reads as it did. -/
def constsBackSpec : ChangeSpec := { name := "constsBack", fn := fun _ => fun
  | [d] => { results := [.lit (.bool true)], args := [d] }
  | _ => none }
def constsBackRow : OpenClaim := { program := "ytnbkbmpjggemaaa", sum := "c7bcd9251826e48c05d0d210172bdd5dd6dbaed4cc1b21fcdb18f31c2e3bae25", func := "vouch/vouchlaw17.ConstsBack", spec := "constsBack", inPlace := ["internal/bytealg.IndexByteString", "internal/abi.NoEscape"], unfollowed := true, recurses := true, apart := false }
def ConstsBackSaid : Prop := constsBackRow.holds Try.pinned (OpenSpec.ofChange constsBackSpec)

/-- ITS FALSE NEIGHBOUR: 'it returns false'. Refute it at one input. -/
def constsBackWrong : ChangeSpec := { name := "constsBack", fn := fun _ => fun
  | [d] => { results := [.lit (.bool false)], args := [d] }
  | _ => none }
def ConstsBackWrongFalsely : Prop := constsBackRow.holds Try.pinned (OpenSpec.ofChange constsBackWrong)

/- THE SECOND FORM. 'bulk': how many values and letters a reading holds, each counted each time it is reached (what is shared counts as often as it is met; a slice's spare places count too). A statement '..UptoSaid' is the law's where the arguments, and the package variables that the reading takes, are together of bulk at most 1048576: NARROWER than '..Said'. Prove '..Said' where nothing that the law and all that it calls make is longer than what came in: it says more and counts as full. Else prove '..UptoSaid'. A law counts once. -/
mutual
def uptoBulk {H : Type} : DataW H → Nat
  | .lit (.string bytes) => bytes.length + 1
  | .lit _ => 1
  | .nil => 1
  | .ptr d => uptoBulk d + 1
  | .slice elems spare => uptoBulkAll elems + uptoBulkAll spare + 1
  | .agg parts => uptoBulkAll parts + 1
  | .iface _ d => uptoBulk d + 1
  | .map entries => uptoBulkEntries entries + 1
  | .held _ => 1
def uptoBulkAll {H : Type} : List (DataW H) → Nat
  | [] => 0
  | d :: r => uptoBulk d + uptoBulkAll r
def uptoBulkEntries {H : Type} : List (Lit × DataW H) → Nat
  | [] => 0
  | x :: r => uptoBulkEntry x + uptoBulkEntries r
def uptoBulkEntry {H : Type} : Lit × DataW H → Nat
  | (.string bytes, d) => bytes.length + uptoBulk d + 1
  | (_, d) => uptoBulk d + 1
 end
def uptoSmall : (H : Type) → List (DataW H) → Bool := fun _ ds => decide (uptoBulkAll ds ≤ 1048576)
def OpenSpec.upto (s : _root_.Go.ChangeSpec) : _root_.Go.OpenSpec := { _root_.Go.OpenSpec.ofChange s with cond := some uptoSmall }

/-- 'vouchlaw17.ConstsJoin', WHERE WHAT IT READS IS OF BULK AT MOST 1048576: true; the input reads as it did. -/
def constsJoinUptoRow : OpenClaim := { program := "ytnbkbmpjggemaaa", sum := "c7bcd9251826e48c05d0d210172bdd5dd6dbaed4cc1b21fcdb18f31c2e3bae25", func := "vouch/vouchlaw17.ConstsJoin", spec := "constsJoin", inPlace := ["internal/bytealg.IndexByteString"], unfollowed := true, recurses := true, apart := false, narrowed := true }
def ConstsJoinUptoSaid : Prop := constsJoinUptoRow.holds Try.pinned (OpenSpec.upto constsJoinSpec)

/-- 'vouchlaw17.ConstsKnown', WHERE WHAT IT READS IS OF BULK AT MOST 1048576: true; the input reads as it did. -/
def constsKnownUptoRow : OpenClaim := { program := "ytnbkbmpjggemaaa", sum := "c7bcd9251826e48c05d0d210172bdd5dd6dbaed4cc1b21fcdb18f31c2e3bae25", func := "vouch/vouchlaw17.ConstsKnown", spec := "constsKnown", inPlace := ["internal/bytealg.IndexByteString"], unfollowed := true, recurses := true, apart := false, narrowed := true }
def ConstsKnownUptoSaid : Prop := constsKnownUptoRow.holds Try.pinned (OpenSpec.upto constsKnownSpec)

/-- 'vouchlaw17.ConstsUnlike', WHERE WHAT IT READS IS OF BULK AT MOST 1048576: true; the input reads as it did. -/
def constsUnlikeUptoRow : OpenClaim := { program := "ytnbkbmpjggemaaa", sum := "c7bcd9251826e48c05d0d210172bdd5dd6dbaed4cc1b21fcdb18f31c2e3bae25", func := "vouch/vouchlaw17.ConstsUnlike", spec := "constsUnlike", inPlace := ["internal/bytealg.IndexByteString"], unfollowed := true, recurses := true, apart := false, narrowed := true }
def ConstsUnlikeUptoSaid : Prop := constsUnlikeUptoRow.holds Try.pinned (OpenSpec.upto constsUnlikeSpec)

/-- 'vouchlaw17.ConstsBack', WHERE WHAT IT READS IS OF BULK AT MOST 1048576: true; the input reads as it did. -/
def constsBackUptoRow : OpenClaim := { program := "ytnbkbmpjggemaaa", sum := "c7bcd9251826e48c05d0d210172bdd5dd6dbaed4cc1b21fcdb18f31c2e3bae25", func := "vouch/vouchlaw17.ConstsBack", spec := "constsBack", inPlace := ["internal/bytealg.IndexByteString", "internal/abi.NoEscape"], unfollowed := true, recurses := true, apart := false, narrowed := true }
def ConstsBackUptoSaid : Prop := constsBackUptoRow.holds Try.pinned (OpenSpec.upto constsBackSpec)

end Rows
end Go.Proofs.Ytnbkbmpjggemaaa
