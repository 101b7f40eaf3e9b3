/- The law CompileWrites: for every input that can be read the call returns true and leaves the input as it was. -/
import Derived.Test.YthmlninecfjjgaaG5
import Derived.Test.YthmlninecfjjgaaG7
namespace Go.Proofs.Ythmlninecfjjgaa.compileWrites
open Go.ChangeShapes Go.WideShapes Go.ChangeAt Go.RowKit Go.Proofs.Ythmlninecfjjgaa.AD
open Go.ChangeMaps (open_string shut_string)
set_option linter.unusedVariables false
theorem own : ownKnob Try.prog.godebug = none := by kernel_rfl
theorem laidOut : laidOutB Try.prog = true := by kernel_rfl
set_option maxRecDepth 100000 in
theorem lifted (os : Os) (started : os.Started) (H : Type) (enc : TypeId × Value → H) :
    ReturnsInHanded {} Try.checked os 7 .any (Rows.compileWritesSpec.pre6 enc Try.prog Try.f7 Rows.compileWritesRow.domain false) (Rows.compileWritesSpec.post enc Try.prog Try.f7 false true false false) := by
  refine returnsInHanded_of_change_sized (C := Try.checked) own started (by kernel_rfl) Try.func7
    (ChangeSpec.witness6 (enc := enc) (C := Try.checked) false ⟨#[], #[.slice none 0 0, .agg #[.int .u8 0, .string ⟨#[]⟩, .int .i64 0, .slice none 0 0]], []⟩ 8 (by kernel_rfl) (by kernel_rfl) (by kernel_rfl) (by kernel_rfl)) ?_
  intro W base args ds gs before hval0 hW hcnd hsz0 _
  have hval : ∀ (j : Nat) t v, Try.f7.params[j]? = some t → args[j]? = some v → Value.okWide Try.prog W .any base t v := hval0
  have hW' := hW
  obtain ⟨p, q, hA0, hV, rfl, hfz, hnd⟩ := hW
  have hA : DataW.TrodAll enc Try.prog W 0 (fun _ => true) true Try.f7.params.toList args.toList ds p := hA0
  rw [Try.params7] at hA hval
  obtain ⟨v0, vs0, d0, ds0, p0, q0, hargs, rfl, rfl, h0, r0⟩ := trodAll_cons hA
  obtain ⟨v1, vs1, d1, ds1, p1, q1, hargs1, rfl, rfl, h1, r1⟩ := trodAll_cons r0
  obtain ⟨rfl, rfl, rfl⟩ := trodAll_nil r1
  obtain rfl : args = #[v0, v1] := by cases args; simp_all
  obtain ⟨rfl, rfl⟩ := trodVars_none hV
  have k0 := h0
  have k1 := h1
  have lt0 : ∀ x ∈ p0, x.block < W.heap.size := by obtain ⟨m, hm⟩ := k0; exact DataW.trod_lt m _ _ _ hm
  have lt1 : ∀ x ∈ p1, x.block < W.heap.size := by obtain ⟨m, hm⟩ := k1; exact DataW.trod_lt m _ _ _ hm
  obtain ⟨fuel, hf⟩ := h0
  obtain ⟨fuel1, hf1⟩ := h1
  obtain ⟨ua, ulen, ucap, rfl⟩ := Go.WideShapes.okWide_slice Try.underlying39 (hval 0 39 v0 rfl rfl)
  obtain ⟨e, hfit1, hfit2, hv⟩ := open_cls clTypes exTypes fuel _ _ _ hf
  obtain ⟨e1, hfit3, hc⟩ := open_li liTypes fuel1 _ _ _ hf1
  obtain ⟨cs0, rfl⟩ := AD.okWide_agg Try.underlying24 (hval 1 24 v1 rfl rfl)
  have hv1 : VP (fun _ => False) W (.agg cs0) (AD.encL e1) := by
    rw [encL_cells]
    exact .agg _ _ (by simpa [Value.cells] using hc.1) (fun j x c hx hcj => (hc.2 j x c (by simpa [Value.cells] using hx) hcj).1) (fun j x hx => by
      have hl : cs0.size = (liCells e1).length := by simpa [Value.cells] using hc.1
      have hj := (Array.getElem?_eq_some_iff.1 hx).1
      exact (hc.2 j x (liCells e1)[j] (by simpa [Value.cells] using hx) (List.getElem?_eq_getElem (by omega))).2)
  refine (true_calls (ps := [.list 8 (AD.encCs e), AD.encL e1]) (CompileWrites_spec e e1 hfit1 hfit2 hfit3) rfl fun j x p hx hp => ?_).mono fun e' W' he => ?_
  · match j, hx, hp with
    | 0, hx, hp => cases hx; cases hp; exact hv
    | 1, hx, hp => cases hx; cases hp; exact hv1
  · obtain ⟨rfl, bel⟩ := he
    exact ⟨_, rfl, _, _, _, [], _, [], hW', trodAll_mk1 (shut_bool (by kernel_rfl) _), (trodAll_cons_mk (Below.trod laidOut (by kernel_rfl) (of_decide_eq_true (by kernel_rfl)) k0 bel lt0) (trodAll_cons_mk (Below.trod laidOut (by kernel_rfl) (of_decide_eq_true (by kernel_rfl)) k1 bel lt1) trodAll_mk0)), rfl, bel.frame _, fun h => by cases h⟩
theorem over : Rows.compileWritesRow.holds Try.pinned (OpenSpec.ofChange Rows.compileWritesSpec) :=
  OpenClaim.holds_of_wide 7 Try.f7 rfl rfl rfl rfl rfl rfl rfl ⟨rfl, rfl, rfl, rfl, rfl⟩ rfl rfl rfl rfl rfl (by kernel_rfl) Try.func7 (by kernel_rfl)
    (of_decide_eq_true (by kernel_rfl)) (by unfold Func.isWrapper; first | (rw [if_pos (by decide +kernel)]; kernel_rfl) | (rw [if_neg (by decide +kernel)]; exact ⟨rfl, rfl⟩))
    (fun os started H enc _ => lifted os started H enc)
theorem proved : Rows.CompileWritesSaid := over
#print axioms proved
end Go.Proofs.Ythmlninecfjjgaa.compileWrites
namespace Go.Proofs.Ythmlninecfjjgaa
/-- The row, under a short name, for the claim. -/
theorem compileWrites_holds : Rows.CompileWritesSaid := compileWrites.proved
end Go.Proofs.Ythmlninecfjjgaa
