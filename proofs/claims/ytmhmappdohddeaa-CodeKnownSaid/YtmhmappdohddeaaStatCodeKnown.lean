import Derived.Test.YtmhmappdohddeaaHvouchlaw21CodeKnown
import Derived.Test.YtmhmappdohddeaaOpen
import Derived.KernelRfl
namespace Go.Proofs.Ytmhmappdohddeaa.PCodeKnown
open Go.RowKit Go.Proofs.Ytmhmappdohddeaa.Opening Go.Proofs.Ytmhmappdohddeaa.H Go.Proofs.YtmhmappdohddeaaW.PrintWords
set_option linter.unusedVariables false
/-- The plain statement of the law. -/
def vouchlaw21_CodeKnown.Pure : Prop := ∃ k, vouchlaw21_CodeKnown.f k  = some true
end Go.Proofs.Ytmhmappdohddeaa.PCodeKnown
