import Derived.Test.YtmhmappdohddeaaHvouchlaw21CodeSame
import Derived.Test.YtmhmappdohddeaaOpen
import Derived.KernelRfl
namespace Go.Proofs.Ytmhmappdohddeaa.PCodeSame
open Go.RowKit Go.Proofs.Ytmhmappdohddeaa.Opening Go.Proofs.Ytmhmappdohddeaa.H Go.Proofs.YtmhmappdohddeaaW.PrintWords
set_option linter.unusedVariables false
theorem opensL22 : ∀ F, OpensF Try.prog F 22 (Kd.slice 9 Kd.string) (fun xs => xs.length ≤ maxLen ∧ xs.length * 16 ≤ 140737488351232 ∧ ∀ x ∈ xs, (fun s : ByteArray => s.size ≤ 140737488351232) x)
  | 0 => opens_zero
  | F + 1 => opens_slice Try.underlying22 (by kernel_rfl) (by kernel_rfl) ((fun _ => opens_string Try.underlying9) F)
def goodT41 (y : (Int) × (Int) × (Int)) : Prop := (fun y : (Int) × (Int) × (Int) => (fun x : Int => (Lit.int .u8 x).wf = true) y.1 ∧ (fun y : (Int) × (Int) => (fun x : Int => (Lit.int .i64 x).wf = true) y.1 ∧ (fun x : Int => (Lit.int .i64 x).wf = true) y.2) y.2) y
theorem opensT41 (F : Nat) : OpensF Try.prog (F + 1) 41 (Kd.pair (Kd.int .u8) (Kd.pair (Kd.int .i64) (Kd.int .i64))) goodT41 := opens_struct Try.underlying41 (by kernel_rfl) (fields_cons (d := (Kd.int .u8)) (d2 := (Kd.pair (Kd.int .i64) (Kd.int .i64))) (good := (fun x : Int => (Lit.int .u8 x).wf = true)) (good2 := (fun y : (Int) × (Int) => (fun x : Int => (Lit.int .i64 x).wf = true) y.1 ∧ (fun x : Int => (Lit.int .i64 x).wf = true) y.2)) rfl (by kernel_rfl) ((fun _ => opens_int Try.underlying5) F) (fields_cons (d := (Kd.int .i64)) (d2 := (Kd.int .i64)) (good := (fun x : Int => (Lit.int .i64 x).wf = true)) (good2 := (fun x : Int => (Lit.int .i64 x).wf = true)) rfl (by kernel_rfl) ((fun _ => opens_int Try.underlying3) F) (fields_last (d := (Kd.int .i64)) (good := (fun x : Int => (Lit.int .i64 x).wf = true)) rfl (by kernel_rfl) ((fun _ => opens_int Try.underlying3) F))))
def good41 (x : S41) : Prop := goodT41 ((x.f0, x.f1, x.f2))
theorem opens41 : ∀ F, OpensF Try.prog F 41 k41 good41
  | 0 => opens_zero
  | F + 1 => opens_iso (α := (Int) × (Int) × (Int)) (β := S41) (d := (Kd.pair (Kd.int .u8) (Kd.pair (Kd.int .i64) (Kd.int .i64)))) (good := goodT41) (fun x : S41 => (x.f0, x.f1, x.f2)) (fun y => ⟨y.1, y.2.1, y.2.2⟩) (fun _ => rfl) (opensT41 F)
theorem opensL23 : ∀ F, OpensF Try.prog F 23 (Kd.slice 41 k41) (fun xs => xs.length ≤ maxLen ∧ xs.length * 24 ≤ 140737488351232 ∧ ∀ x ∈ xs, good41 x)
  | 0 => opens_zero
  | F + 1 => opens_slice Try.underlying23 (by kernel_rfl) (by kernel_rfl) (opens41 F)
def goodT25 (y : (Int) × (List ByteArray) × (List (S41)) × (Int)) : Prop := (fun y : (Int) × (List ByteArray) × (List (S41)) × (Int) => (fun x : Int => (Lit.int .u8 x).wf = true) y.1 ∧ (fun y : (List ByteArray) × (List (S41)) × (Int) => (fun xs : List ByteArray => xs.length ≤ maxLen ∧ xs.length * 16 ≤ 140737488351232 ∧ ∀ x ∈ xs, (fun s : ByteArray => s.size ≤ 140737488351232) x) y.1 ∧ (fun y : (List (S41)) × (Int) => (fun xs : List S41 => xs.length ≤ maxLen ∧ xs.length * 24 ≤ 140737488351232 ∧ ∀ x ∈ xs, good41 x) y.1 ∧ (fun x : Int => (Lit.int .i64 x).wf = true) y.2) y.2) y.2) y
theorem opensT25 (F : Nat) : OpensF Try.prog (F + 1) 25 (Kd.pair (Kd.int .u8) (Kd.pair (Kd.slice 9 Kd.string) (Kd.pair (Kd.slice 41 k41) (Kd.int .i64)))) goodT25 := opens_struct Try.underlying25 (by kernel_rfl) (fields_cons (d := (Kd.int .u8)) (d2 := (Kd.pair (Kd.slice 9 Kd.string) (Kd.pair (Kd.slice 41 k41) (Kd.int .i64)))) (good := (fun x : Int => (Lit.int .u8 x).wf = true)) (good2 := (fun y : (List ByteArray) × (List (S41)) × (Int) => (fun xs : List ByteArray => xs.length ≤ maxLen ∧ xs.length * 16 ≤ 140737488351232 ∧ ∀ x ∈ xs, (fun s : ByteArray => s.size ≤ 140737488351232) x) y.1 ∧ (fun y : (List (S41)) × (Int) => (fun xs : List S41 => xs.length ≤ maxLen ∧ xs.length * 24 ≤ 140737488351232 ∧ ∀ x ∈ xs, good41 x) y.1 ∧ (fun x : Int => (Lit.int .i64 x).wf = true) y.2) y.2)) rfl (by kernel_rfl) ((fun _ => opens_int Try.underlying5) F) (fields_cons (d := (Kd.slice 9 Kd.string)) (d2 := (Kd.pair (Kd.slice 41 k41) (Kd.int .i64))) (good := (fun xs : List ByteArray => xs.length ≤ maxLen ∧ xs.length * 16 ≤ 140737488351232 ∧ ∀ x ∈ xs, (fun s : ByteArray => s.size ≤ 140737488351232) x)) (good2 := (fun y : (List (S41)) × (Int) => (fun xs : List S41 => xs.length ≤ maxLen ∧ xs.length * 24 ≤ 140737488351232 ∧ ∀ x ∈ xs, good41 x) y.1 ∧ (fun x : Int => (Lit.int .i64 x).wf = true) y.2)) rfl (by kernel_rfl) (opensL22 F) (fields_cons (d := (Kd.slice 41 k41)) (d2 := (Kd.int .i64)) (good := (fun xs : List S41 => xs.length ≤ maxLen ∧ xs.length * 24 ≤ 140737488351232 ∧ ∀ x ∈ xs, good41 x)) (good2 := (fun x : Int => (Lit.int .i64 x).wf = true)) rfl (by kernel_rfl) (opensL23 F) (fields_last (d := (Kd.int .i64)) (good := (fun x : Int => (Lit.int .i64 x).wf = true)) rfl (by kernel_rfl) ((fun _ => opens_int Try.underlying3) F)))))
theorem opensTT0_25 : ∀ F, OpensF Try.prog F 25 (Kd.pair (Kd.int .u8) (Kd.pair (Kd.slice 9 Kd.string) (Kd.pair (Kd.slice 41 k41) (Kd.int .i64)))) goodT25
  | 0 => opens_zero
  | F + 1 => opensT25 F
theorem opensTT1_25 : ∀ F, OpensF Try.prog F 25 (Kd.pair (Kd.int .u8) (Kd.pair (Kd.slice 9 Kd.string) (Kd.pair (Kd.slice 41 k41) (Kd.int .i64)))) goodT25
  | 0 => opens_zero
  | F + 1 => opensT25 F
/-- The plain statement of the law. -/
def vouchlaw21_CodeSame.Pure : Prop := ∀ (a0_0 : Int) (l0_1 : List ByteArray) (l0_2 : List (S41)) (a0_3 : Int) (a1_0 : Int) (l1_1 : List ByteArray) (l1_2 : List (S41)) (a1_3 : Int), goodT25 (a0_0, l0_1, l0_2, a0_3) → goodT25 (a1_0, l1_1, l1_2, a1_3) → ∃ k, vouchlaw21_CodeSame.f k a0_0 l0_1 l0_2 a0_3 a1_0 l1_1 l1_2 a1_3 = some true
end Go.Proofs.Ytmhmappdohddeaa.PCodeSame
