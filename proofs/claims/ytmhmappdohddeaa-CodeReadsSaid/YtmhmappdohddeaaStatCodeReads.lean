import Derived.Test.YtmhmappdohddeaaHvouchlaw21CodeReads
import Derived.Test.YtmhmappdohddeaaOpen
import Derived.KernelRfl
namespace Go.Proofs.Ytmhmappdohddeaa.PCodeReads
open Go.RowKit Go.Proofs.Ytmhmappdohddeaa.Opening Go.Proofs.Ytmhmappdohddeaa.H Go.Proofs.YtmhmappdohddeaaW.PrintWords
set_option linter.unusedVariables false
theorem opensL27 : ∀ F, OpensF Try.prog F 27 (Kd.slice 5 (Kd.int .u8)) (fun xs => xs.length ≤ maxLen ∧ xs.length * 1 ≤ 140737488351232 ∧ ∀ x ∈ xs, (fun x : Int => (Lit.int .u8 x).wf = true) x)
  | 0 => opens_zero
  | F + 1 => opens_slice Try.underlying27 (by kernel_rfl) (by kernel_rfl) ((fun _ => opens_int Try.underlying5) F)
/-- The plain statement of the law. -/
def vouchlaw21_CodeReads.Pure : Prop := ∀ (l0 : List Int), (fun xs : List Int => xs.length ≤ maxLen ∧ xs.length * 1 ≤ 140737488351232 ∧ ∀ x ∈ xs, (fun x : Int => (Lit.int .u8 x).wf = true) x) l0 → ∃ k, vouchlaw21_CodeReads.f k l0 = some true
end Go.Proofs.Ytmhmappdohddeaa.PCodeReads
