/- The law VerifyHeights: for every input that can be read the call returns true and leaves the input as it was; the row, and the tied card. -/
import Derived.Test.YtgdimfogijfmiaaDoorTie
import Derived.Test.YtgdimfogijfmiaaDoorCards
import Derived.Test.YtgdimfogijfmiaaDoorG7
import Derived.Test.YtgdimfogijfmiaaDoorG8
import Derived.LaidMore
import Derived.Lay
import Derived.SevenTiedAt
import Derived.Stop.Joined
namespace Go.Proofs.YtgdimfogijfmiaaDoor.verifyHeights
open Go.ChangeShapes Go.WideShapes Go.ChangeAt Go.RowKit Go.Proofs.YtgdimfogijfmiaaDoor.AD
open Go.ChangeMaps (open_string shut_string)
set_option linter.unusedVariables false
theorem own : ownKnob Tryd.prog.godebug = none := by kernel_rfl
theorem laidOut : laidOutB Tryd.prog = true := by kernel_rfl
set_option maxRecDepth 100000 in
theorem lifted (os : Os) (started : os.Started) (H : Type) (enc : TypeId × Value → H) :
    ReturnsInHanded {} Tryd.checked os 4 .any (fun w args => (Rows.verifyHeightsSpec.pre enc Tryd.prog Tryd.f4 Rows.verifyHeightsRow.domain false w args ∧ laidMetH Tryd.prog Rows.verifyHeightsRow.laid w) ∧ sizedMet enc Tryd.prog Tryd.f4 (OpenSpec.ofChange Rows.verifyHeightsSpec) false w args)
      (Rows.verifyHeightsSpec.post enc Tryd.prog Tryd.f4 false true false false) := by
  refine returnsInHanded_of_change_and (C := Tryd.checked) (X := fun w _ => laidMetH Tryd.prog Rows.verifyHeightsRow.laid w) (fun _ _ _ hh h => h.of_heap hh) own started (by kernel_rfl) Tryd.func4
    (ChangeSpec.witness_shaped (enc := enc) (C := Tryd.checked) (os := os) (X := fun w _ => laidMetH Tryd.prog Rows.verifyHeightsRow.laid w) false (World.laidAll Tryd.prog os Rows.verifyHeightsRow.laid) #[.agg #[.int .u8 0, .slice none 0 0, .slice none 0 0, .int .i64 0]] 8 (World.laidAll_os _ _ _)
      (World.shaped_of_ZipB (by kernel_rfl) (by kernel_rfl)) (by kernel_rfl) (by kernel_rfl) (by kernel_rfl)
      (by rw [MakeChecks.laidMetH_plain _ _ _ (by kernel_rfl)]; exact laidMet_laidAll _ (by kernel_rfl) (by kernel_rfl))) ?_
  intro W base args ds gs before hval0 hW _ _ _ _
  have hval : ∀ (j : Nat) t v, Tryd.f4.params[j]? = some t → args[j]? = some v → Value.okWide Tryd.prog W .any base t v := hval0
  have hW' := hW
  obtain ⟨p, q, hA0, hV, rfl, hfz, hnd⟩ := hW
  have hA : DataW.TrodAll enc Tryd.prog W 0 (fun _ => true) true Tryd.f4.params.toList args.toList ds p := hA0
  rw [Tryd.params4] at hA hval
  obtain ⟨v0, vs0, d0, ds0, p0, q0, hargs, rfl, rfl, h0, r0⟩ := trodAll_cons hA
  obtain ⟨rfl, rfl, rfl⟩ := trodAll_nil r0
  obtain rfl : args = #[v0] := by cases args; simp_all
  obtain ⟨rfl, rfl⟩ := trodVars_none hV
  have k0 := h0
  have lt0 : ∀ x ∈ p0, x.block < W.heap.size := by obtain ⟨m, hm⟩ := k0; exact DataW.trod_lt m _ _ _ hm
  obtain ⟨fuel, hf⟩ := h0
  obtain ⟨κ, T, C, S, hc⟩ := open_pg pgTypes fuel _ _ _ hf
  obtain ⟨cs0, rfl⟩ := AD.okWide_agg Tryd.underlying30 (hval 0 30 v0 rfl rfl)
  have hv : VP (fun _ => False) W (.agg cs0) (AD.encPg κ T C S) :=
    .agg _ _ (by simpa [Value.cells] using hc.1) (fun j x c hx hcj => (hc.2 j x c (by simpa [Value.cells] using hx) hcj).1) (fun j x hx => by
      have hl : cs0.size = [PV.int .u8 κ, .list 1 (AD.tP T), .list 3 (AD.cP C), .int .i64 S].length := by simpa [Value.cells] using hc.1
      have hj := (Array.getElem?_eq_some_iff.1 hx).1
      exact (hc.2 j x [PV.int .u8 κ, .list 1 (AD.tP T), .list 3 (AD.cP C), .int .i64 S][j] (by simpa [Value.cells] using hx) (List.getElem?_eq_getElem (by omega))).2)
  refine (true_calls (ps := [AD.encPg κ T C S]) (AD.VerifyHeights_spec ⟨κ, T, C, S⟩) rfl fun j x p hx hp => ?_).mono fun e' W' he => ?_
  · match j, hx, hp with
    | 0, hx, hp => cases hx; cases hp; exact hv
  · obtain ⟨rfl, bel⟩ := he
    exact ⟨_, rfl, _, _, _, [], _, [], hW', trodAll_mk1 (shut_bool (by kernel_rfl) _), (trodAll_cons_mk (Below.trod laidOut (by kernel_rfl) (of_decide_eq_true (by kernel_rfl)) k0 bel lt0) trodAll_mk0), rfl, bel.frame _, fun h => by cases h⟩
theorem proved : Rows.VerifyHeightsSaid :=
  OpenClaim.holds_of_wide 4 Tryd.f4 rfl rfl rfl rfl rfl rfl rfl ⟨rfl, rfl, rfl, rfl, rfl⟩ rfl rfl rfl rfl rfl (by kernel_rfl) Tryd.func4 (by kernel_rfl)
    (of_decide_eq_true (by kernel_rfl)) (by unfold Func.isWrapper; first | (rw [if_pos (by decide +kernel)]; kernel_rfl) | (rw [if_neg (by decide +kernel)]; exact ⟨rfl, rfl⟩))
    (fun os started H enc _ => lifted os started H enc)
set_option maxRecDepth 100000 in
theorem card : Rows.VerifyHeightsCardSaid :=
  Claim7.holds_tied_plain_at .later [] [.data, .pinned] true (true, "439887f0238bd8212f2db35e7194d6c9e09964889e7e9ef8a74492b75f8cd72d") false proved (fun _ h => by cases h) (by kernel_rfl) (fun _ h => by cases h) verifyHeights_row_tie rfl ⟨rfl, rfl⟩ (by kernel_rfl) rfl
    (fun f fn hf hfn => by
      obtain rfl : f = 4 := Option.some.inj ((show Tryd.prog.funcNamed "vouch/vouchlaw23.VerifyHeights" = some 4 by kernel_rfl).symm.trans hf) |>.symm
      obtain rfl : fn = Tryd.f4 := (Option.some.inj (Tryd.func4.symm.trans hfn)).symm
      exact ⟨by kernel_rfl, fun j t ht => by
        rw [Tryd.params4] at ht
        have hm : t ∈ ([30] : List Nat) := by simpa using Array.mem_of_getElem? ht
        have hall : (([30] : List Nat).all fun u => !Tryd.prog.wantsStandIn u) = true := by kernel_rfl
        exact (show Tryd.prog.wantsStandIn t = false by simpa using List.all_eq_true.1 hall t hm)⟩)
    (by kernel_rfl)
#print axioms card
end Go.Proofs.YtgdimfogijfmiaaDoor.verifyHeights
namespace Go.Proofs.YtgdimfogijfmiaaDoor
/-- The tied card, under a short name, for the claim. -/
theorem verifyHeights_holds : Rows.VerifyHeightsCardSaid := verifyHeights.card
end Go.Proofs.YtgdimfogijfmiaaDoor
