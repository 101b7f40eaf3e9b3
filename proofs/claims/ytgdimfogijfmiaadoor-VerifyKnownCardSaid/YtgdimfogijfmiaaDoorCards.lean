/-
  DERIVED. GIVEN WITH THE SEED: THE CARDS: each row of YtgdimfogijfmiaaDoorRows.lean that lists a variable, with what it lists TIED to the program's text (the seventh form; the later family's looks); each row that meets fmt, with fmt's text TOLD by the authors' own Lean function (tested against real Go, not proved from fmt's source: count such statements apart). THE CARD IS WHAT COUNTS. Prove the row's statement (the work); the ties are given (YtgdimfogijfmiaaDoorTie.lean); close each card by the builder's one call (the guide's Derived/Test/ToyasCard.lean, 'card_holds'). Laid BY PROGRAM, IN A SANDBOX (cutbox-door.mjs). By AI agents, Wed Nov 11 2026. No macro, syntax, notation, axiom, sorry.
-/
import Derived.Test.YtgdimfogijfmiaaDoorRows
import GoSem.ClaimSeven
namespace Go.Proofs.YtgdimfogijfmiaaDoor
namespace Rows

/-- THE TIED CARD OF 'vouchlaw23.VerifyKnown'. -/
def verifyKnownCard : Claim7 := { stood := { row := verifyKnownRow, standIns := [], harness := (true, "439887f0238bd8212f2db35e7194d6c9e09964889e7e9ef8a74492b75f8cd72d"), looks := false }, kinds := [], alts := [], laidByText := true, laidKinds := [.data, .pinned], laidTests := true, laidLooks := .later }
def VerifyKnownCardSaid : Prop := Claim7.holds Tryd.pinned (.plain (OpenSpec.ofChange verifyKnownSpec)) verifyKnownCard

/-- THE TIED CARD OF 'vouchlaw23.VerifyHeights'. -/
def verifyHeightsCard : Claim7 := { stood := { row := verifyHeightsRow, standIns := [], harness := (true, "439887f0238bd8212f2db35e7194d6c9e09964889e7e9ef8a74492b75f8cd72d"), looks := false }, kinds := [], alts := [], laidByText := true, laidKinds := [.data, .pinned], laidTests := true, laidLooks := .later }
def VerifyHeightsCardSaid : Prop := Claim7.holds Tryd.pinned (.plain (OpenSpec.ofChange verifyHeightsSpec)) verifyHeightsCard

/-- THE TIED CARD OF 'vouchlaw23.VerifyChecks'. -/
def verifyChecksCard : Claim7 := { stood := { row := verifyChecksRow, standIns := [], harness := (true, "439887f0238bd8212f2db35e7194d6c9e09964889e7e9ef8a74492b75f8cd72d"), looks := false }, kinds := [], alts := [], laidByText := true, laidKinds := [.data, .pinned], laidTests := true, laidLooks := .later }
def VerifyChecksCardSaid : Prop := Claim7.holds Tryd.pinned (.plain (OpenSpec.ofChange verifyChecksSpec)) verifyChecksCard

/-- THE TIED CARD OF 'vouchlaw23.VerifyOnward'. -/
def verifyOnwardCard : Claim7 := { stood := { row := verifyOnwardRow, standIns := [], harness := (true, "439887f0238bd8212f2db35e7194d6c9e09964889e7e9ef8a74492b75f8cd72d"), looks := false }, kinds := [], alts := [], laidByText := true, laidKinds := [.data, .pinned], laidTests := true, laidLooks := .later }
def VerifyOnwardCardSaid : Prop := Claim7.holds Tryd.pinned (.plain (OpenSpec.ofChange verifyOnwardSpec)) verifyOnwardCard

/-- THE SECOND FORM's CARD OF 'vouchlaw23.VerifyKnown'. -/
def verifyKnownUptoCard : Claim7 := { stood := { row := verifyKnownUptoRow, standIns := [], harness := (true, "439887f0238bd8212f2db35e7194d6c9e09964889e7e9ef8a74492b75f8cd72d"), looks := false }, kinds := [], alts := [], laidByText := true, laidKinds := [.data, .pinned], laidTests := true, laidLooks := .later }
def VerifyKnownUptoCardSaid : Prop := Claim7.holds Tryd.pinned (.plain (OpenSpec.upto verifyKnownSpec)) verifyKnownUptoCard

/-- THE SECOND FORM's CARD OF 'vouchlaw23.VerifyHeights'. -/
def verifyHeightsUptoCard : Claim7 := { stood := { row := verifyHeightsUptoRow, standIns := [], harness := (true, "439887f0238bd8212f2db35e7194d6c9e09964889e7e9ef8a74492b75f8cd72d"), looks := false }, kinds := [], alts := [], laidByText := true, laidKinds := [.data, .pinned], laidTests := true, laidLooks := .later }
def VerifyHeightsUptoCardSaid : Prop := Claim7.holds Tryd.pinned (.plain (OpenSpec.upto verifyHeightsSpec)) verifyHeightsUptoCard

/-- THE SECOND FORM's CARD OF 'vouchlaw23.VerifyChecks'. -/
def verifyChecksUptoCard : Claim7 := { stood := { row := verifyChecksUptoRow, standIns := [], harness := (true, "439887f0238bd8212f2db35e7194d6c9e09964889e7e9ef8a74492b75f8cd72d"), looks := false }, kinds := [], alts := [], laidByText := true, laidKinds := [.data, .pinned], laidTests := true, laidLooks := .later }
def VerifyChecksUptoCardSaid : Prop := Claim7.holds Tryd.pinned (.plain (OpenSpec.upto verifyChecksSpec)) verifyChecksUptoCard

/-- THE SECOND FORM's CARD OF 'vouchlaw23.VerifyOnward'. -/
def verifyOnwardUptoCard : Claim7 := { stood := { row := verifyOnwardUptoRow, standIns := [], harness := (true, "439887f0238bd8212f2db35e7194d6c9e09964889e7e9ef8a74492b75f8cd72d"), looks := false }, kinds := [], alts := [], laidByText := true, laidKinds := [.data, .pinned], laidTests := true, laidLooks := .later }
def VerifyOnwardUptoCardSaid : Prop := Claim7.holds Tryd.pinned (.plain (OpenSpec.upto verifyOnwardSpec)) verifyOnwardUptoCard
end Rows
end Go.Proofs.YtgdimfogijfmiaaDoor
