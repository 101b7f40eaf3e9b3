/- The law CodeWrites, out of its plain statement (proved in YtmhmappdohddeaaPureCodeWrites) and the walk of its code: for every input that can be read the call returns true and leaves the input as it was. -/
import Derived.Test.YtmhmappdohddeaaRows
import Derived.Test.YtmhmappdohddeaaStatCodeWrites
import Derived.Test.YtmhmappdohddeaaPureCodeWrites
import Derived.WalkKit
import Derived.ProofKit
import Derived.OpenShut
import Derived.ShutString
import Derived.ChangeOld
import Derived.Below
import Derived.SizedLaws
namespace Go.Proofs.Ytmhmappdohddeaa.codeWrites
open Go.ChangeShapes Go.WideShapes Go.ChangeAt Go.RowKit Go.Proofs.Ytmhmappdohddeaa.Opening Go.Proofs.Ytmhmappdohddeaa.H Go.Proofs.YtmhmappdohddeaaW.PrintWords
open Go.ChangeMaps (open_string shut_string)
set_option linter.unusedVariables false
theorem own : ownKnob Try.prog.godebug = none := by kernel_rfl
theorem laidOut : laidOutB Try.prog = true := by kernel_rfl
set_option maxRecDepth 100000 in
theorem lifted (os : Os) (started : os.Started) (H : Type) (enc : TypeId × Value → H) :
    ReturnsInHanded {} Try.checked os 4 .any (Rows.codeWritesSpec.pre6 enc Try.prog Try.f4 Rows.codeWritesRow.domain false) (Rows.codeWritesSpec.post enc Try.prog Try.f4 false true false false) := by
  refine returnsInHanded_of_change_sized (C := Try.checked) own started (by kernel_rfl) Try.func4
    (ChangeSpec.witness6 (enc := enc) (C := Try.checked) false ⟨#[], #[.agg #[.int .u8 0, .slice none 0 0, .slice none 0 0, .int .i64 0]], []⟩ 8 (by kernel_rfl) (by kernel_rfl) (by kernel_rfl) (by kernel_rfl)) ?_
  intro W base args ds gs before hval0 hW hcnd hsz0 _
  have hsz : (DataW.weightsEach Try.prog (Try.f4.params.toList ++ Rows.codeWritesSpec.plain.varTypes Try.prog) (ds ++ gs)).all (· ≤ reachBytes) = true := hsz0
  have hval : ∀ (j : Nat) t v, Try.f4.params[j]? = some t → args[j]? = some v → Value.okWide Try.prog W .any base t v := hval0
  have hW' := hW
  obtain ⟨p, q, hA0, hV, rfl, hfz, hnd⟩ := hW
  have hA : DataW.TrodAll enc Try.prog W 0 (fun _ => true) true Try.f4.params.toList args.toList ds p := hA0
  rw [Try.params4] at hA hval hsz
  obtain ⟨v0, vs0, d0, ds0, p0, q0, hargs, rfl, rfl, h0, r0⟩ := trodAll_cons hA
  obtain ⟨rfl, rfl, rfl⟩ := trodAll_nil r0
  obtain rfl : args = #[v0] := by cases args; simp_all
  obtain ⟨rfl, rfl⟩ := trodVars_none hV
  have k0 := h0
  have lt0 : ∀ x ∈ p0, x.block < W.heap.size := by obtain ⟨m, hm⟩ := k0; exact DataW.trod_lt m _ _ _ hm
  obtain ⟨x0, K0, G0⟩ := open_arg PCodeWrites.opensTT0_25 h0 (weights_of hsz (j := 0) (t := 25) rfl rfl)
  obtain ⟨cs0, rfl⟩ := okWide_agg Try.underlying25 (hval 0 25 v0 rfl rfl)
  obtain ⟨a0_0, l0_1, l0_2, a0_3⟩ := x0
  obtain ⟨b0_0, e0_0, E0_0, rfl, M0_0⟩ := K0
  obtain ⟨b0_1, e0_1, E0_1, ⟨A0_1, c0_1, rfl, hc0_1, hr0_1⟩, M0_1⟩ := M0_0
  obtain ⟨b0_2, e0_2, E0_2, ⟨A0_2, c0_2, rfl, hc0_2, hr0_2⟩, M0_2⟩ := M0_1
  have F0 : e0_2 = [.int .i64 a0_3] := M0_2
  rw [F0] at E0_2
  rw [E0_2] at E0_1
  rw [E0_1] at E0_0
  obtain rfl : cs0 = #[.int .u8 a0_0, .slice A0_1 l0_1.length c0_1, .slice A0_2 l0_2.length c0_2, .int .i64 a0_3] := by have z : cs0.toList = [.int .u8 a0_0, .slice A0_1 l0_1.length c0_1, .slice A0_2 l0_2.length c0_2, .int .i64 a0_3] := E0_0; rw [← Array.toArray_toList (xs := cs0), z]
  clear hA0 hval0 hsz0 hsz
  obtain ⟨k, hk⟩ := Pure.CodeWrites a0_0 l0_1 l0_2 a0_3 G0
  refine (vouchlaw21_CodeWrites.calls k a0_0 _ _ l0_1 _ _ l0_2 a0_3 true W hr0_1 hc0_1 hr0_2 hc0_2 hk rfl).mono fun e W' ⟨he, bel0⟩ => ?_
  have bel : Below W.heap.size W W' := bel0
  subst he
  exact ⟨_, rfl, _, _, _, [], _, [], hW', trodAll_mk1 (shut_bool Try.underlying4 _), (trodAll_cons_mk (Below.trod laidOut (by kernel_rfl) (of_decide_eq_true (by kernel_rfl)) k0 bel lt0) trodAll_mk0), rfl, bel.frame _, fun h => by cases h⟩
theorem over : Rows.codeWritesRow.holds Try.pinned (OpenSpec.ofChange Rows.codeWritesSpec) :=
  OpenClaim.holds_of_wide 4 Try.f4 rfl rfl rfl rfl rfl rfl rfl ⟨rfl, rfl, rfl, rfl, rfl⟩ rfl rfl rfl rfl rfl (by kernel_rfl) Try.func4 (by kernel_rfl)
    (of_decide_eq_true (by kernel_rfl)) (by unfold Func.isWrapper; first | (rw [if_pos (by decide +kernel)]; kernel_rfl) | (rw [if_neg (by decide +kernel)]; exact ⟨rfl, rfl⟩))
    (fun os started H enc _ => lifted os started H enc)
theorem proved : Rows.CodeWritesSaid := over
#print axioms proved
end Go.Proofs.Ytmhmappdohddeaa.codeWrites
namespace Go.Proofs.Ytmhmappdohddeaa
/-- The row, under a short name, for the claim. -/
theorem codeWrites_holds : Rows.CodeWritesSaid := codeWrites.proved
end Go.Proofs.Ytmhmappdohddeaa
