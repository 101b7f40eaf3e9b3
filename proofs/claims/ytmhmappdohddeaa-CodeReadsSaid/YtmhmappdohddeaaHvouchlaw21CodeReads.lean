-- WRITTEN BY A PROGRAM OF THIS SESSION (hprint.py, compress.py), out of the translation. Lean checks it.
import Derived.Test.YtmhmappdohddeaaHx0
import Derived.Test.YtmhmappdohddeaaWStep
import Derived.Test.YtmhmappdohddeaaWMore
import Derived.Test.YtmhmappdohddeaaHvouchlaw21works
import Derived.Test.YtmhmappdohddeaaHvouchkitSameProgram
import Derived.Test.YtmhmappdohddeaaHvouchref21Decode
import Derived.Test.YtmhmappdohddeaaHcodeDecode
import Derived.Test.YtmhmappdohddeaaHvouchkitSpoilProgram
namespace Go.Proofs.Ytmhmappdohddeaa.H
open Go.RowKit Go.Proofs.YtmhmappdohddeaaW.PrintWords Go.Proofs.YtmhmappdohddeaaW.PrintLast Go.Proofs.YtmhmappdohddeaaW.PrintMore
attribute [local go_sem] max2_int min2_int max_two min_two max_three min_three max_four min_four   -- for this text's walks alone
set_option linter.unusedVariables false
set_option linter.unusedSimpArgs false

/-! ### vouchlaw21_CodeReads: function 6 -/
mutual
def vouchlaw21_CodeReads.j0 : Nat → List Int → List Int → Bool → Int → List ByteArray → List (S41) → Int → Int → List ByteArray → List (S41) → Int → Option (Bool)
 | 0, _, _, _, _, _, _, _, _, _, _, _ => none
 | k + 1, x0, x3, x66, x118000, x118001, x118002, x118003, x133000, x133001, x133002, x133003 => if x66 = true then (some false) else ((vouchkit_SpoilProgram.f k x133000 x133001 x133002 x133003).bind fun bt139 => (if 0 ≤ (x0.length : Int) then (if (x0.length : Int) ≤ (x3.length : Int) then ((code_Decode.f k (x3.take ((x0.length : Int) : Int).toNat)).bind fun bt145 => (vouchlaw21_CodeReads.l0 k x0 x3 0 x118000 x118001 x118002 x118003 bt145.1 bt145.2.1 bt145.2.2.1 bt145.2.2.2.1)) else (none)) else (none)))
def vouchlaw21_CodeReads.l0 : Nat → List Int → List Int → Int → Int → List ByteArray → List (S41) → Int → Int → List ByteArray → List (S41) → Int → Option (Bool)
 | 0, _, _, _, _, _, _, _, _, _, _, _ => none
 | k + 1, x0, x3, x13, x118000, x118001, x118002, x118003, x156000, x156001, x156002, x156003 => if x13 < (x0.length : Int) then (if 0 ≤ x13 then (if x13 < (x3.length : Int) then (vouchlaw21_CodeReads.l0 k x0 (x3.set (x13 : Int).toNat 99) (wrap64 (x13 + 1)) x118000 x118001 x118002 x118003 x156000 x156001 x156002 x156003) else (none)) else (none)) else ((vouchkit_SameProgram.f k x156000 x156001 x156002 x156003 x118000 x118001 x118002 x118003).bind fun t157 => (if t157 = true then ((vouchlaw21_works.f k).bind fun t158 => (some t158)) else (some false)))
end
def vouchlaw21_CodeReads.f (k : Nat) (l0 : List Int) : Option (Bool) := if ([] : List Int).length + l0.length < 140737488355328 then ((some (([] : List Int) ++ l0 : List Int)).bind fun y101 => (if y101.length < 140737488355328 then ((some (y101 ++ [77] : List Int)).bind fun y104 => ((vouchref21_Decode.f k l0).bind fun bt107 => (if 0 ≤ (l0.length : Int) then (if (l0.length : Int) ≤ (y104.length : Int) then ((code_Decode.f k (y104.take ((l0.length : Int) : Int).toNat)).bind fun bt122 => ((vouchkit_SameProgram.f k bt122.1 bt122.2.1 bt122.2.2.1 bt122.2.2.2.1 bt107.1 bt107.2.1 bt107.2.2.1 bt107.2.2.2.1).bind fun t133 => (if t133 = true then (if bt122.2.2.2.2.1 = bt107.2.2.2.2.1 then (if bt122.2.2.2.2.2 = bt107.2.2.2.2.2 then (if (strOfNums (y104.take ((l0.length : Int) : Int).toNat)).toList = (strOfNums l0).toList then (if (l0.length : Int) < (y104.length : Int) then (vouchlaw21_CodeReads.j0 k l0 y104 ((rd y104 (l0.length : Int)) != 77) bt107.1 bt107.2.1 bt107.2.2.1 bt107.2.2.2.1 bt122.1 bt122.2.1 bt122.2.2.1 bt122.2.2.2.1) else (none)) else (vouchlaw21_CodeReads.j0 k l0 y104 true bt107.1 bt107.2.1 bt107.2.2.1 bt107.2.2.2.1 bt122.1 bt122.2.1 bt122.2.2.1 bt122.2.2.2.1)) else (vouchlaw21_CodeReads.j0 k l0 y104 true bt107.1 bt107.2.1 bt107.2.2.1 bt107.2.2.2.1 bt122.1 bt122.2.1 bt122.2.2.1 bt122.2.2.2.1)) else (vouchlaw21_CodeReads.j0 k l0 y104 true bt107.1 bt107.2.1 bt107.2.2.1 bt107.2.2.2.1 bt122.1 bt122.2.1 bt122.2.2.1 bt122.2.2.2.1)) else (vouchlaw21_CodeReads.j0 k l0 y104 true bt107.1 bt107.2.1 bt107.2.2.1 bt107.2.2.2.1 bt122.1 bt122.2.1 bt122.2.2.1 bt122.2.2.2.1)))) else (none)) else (none)))) else (none))) else (none)
theorem vouchlaw21_CodeReads.mono_l : ∀ k, (∀ y0 y1 y2 y3 y4 y5 y6 y7 y8 y9 y10, LeO (vouchlaw21_CodeReads.j0 k y0 y1 y2 y3 y4 y5 y6 y7 y8 y9 y10) (vouchlaw21_CodeReads.j0 (k + 1) y0 y1 y2 y3 y4 y5 y6 y7 y8 y9 y10)) ∧ (∀ y0 y1 y2 y3 y4 y5 y6 y7 y8 y9 y10, LeO (vouchlaw21_CodeReads.l0 k y0 y1 y2 y3 y4 y5 y6 y7 y8 y9 y10) (vouchlaw21_CodeReads.l0 (k + 1) y0 y1 y2 y3 y4 y5 y6 y7 y8 y9 y10))
 | 0 => ⟨fun _ _ _ _ _ _ _ _ _ _ _ r h => by simp [vouchlaw21_CodeReads.j0] at h, fun _ _ _ _ _ _ _ _ _ _ _ r h => by simp [vouchlaw21_CodeReads.l0] at h⟩
 | k + 1 => by
  obtain ⟨ih0, ih1⟩ := vouchlaw21_CodeReads.mono_l k
  refine ⟨?_, ?_⟩
  ·intro y0 y1 y2 y3 y4 y5 y6 y7 y8 y9 y10
   unfold vouchlaw21_CodeReads.j0
   repeat' first
   | (with_reducible exact ih0 _ _ _ _ _ _ _ _ _ _ _)
   | (with_reducible exact ih1 _ _ _ _ _ _ _ _ _ _ _)
   | (with_reducible exact code_Decode.mono _ _)
   | (with_reducible exact vouchkit_SameProgram.mono _ _ _ _ _ _ _ _ _)
   | (with_reducible exact vouchkit_SpoilProgram.mono _ _ _ _ _)
   | (with_reducible exact vouchlaw21_works.mono _)
   | (with_reducible exact vouchref21_Decode.mono _ _)
   | (with_reducible exact LeO.refl _)
   | (with_reducible exact LeO.none _)
   | (with_reducible refine LeO.ite ?_ ?_)
   | (with_reducible refine LeO.bind ?_ (fun _ => ?_))
   | exact ih0 _ _ _ _ _ _ _ _ _ _ _
   | exact ih1 _ _ _ _ _ _ _ _ _ _ _
   | exact code_Decode.mono _ _
   | exact vouchkit_SameProgram.mono _ _ _ _ _ _ _ _ _
   | exact vouchkit_SpoilProgram.mono _ _ _ _ _
   | exact vouchlaw21_works.mono _
   | exact vouchref21_Decode.mono _ _
   | exact LeO.none _
   | refine LeO.ite ?_ ?_
   | refine LeO.bind ?_ (fun _ => ?_)
  ·intro y0 y1 y2 y3 y4 y5 y6 y7 y8 y9 y10
   unfold vouchlaw21_CodeReads.l0
   repeat' first
   | (with_reducible exact ih0 _ _ _ _ _ _ _ _ _ _ _)
   | (with_reducible exact ih1 _ _ _ _ _ _ _ _ _ _ _)
   | (with_reducible exact code_Decode.mono _ _)
   | (with_reducible exact vouchkit_SameProgram.mono _ _ _ _ _ _ _ _ _)
   | (with_reducible exact vouchkit_SpoilProgram.mono _ _ _ _ _)
   | (with_reducible exact vouchlaw21_works.mono _)
   | (with_reducible exact vouchref21_Decode.mono _ _)
   | (with_reducible exact LeO.refl _)
   | (with_reducible exact LeO.none _)
   | (with_reducible refine LeO.ite ?_ ?_)
   | (with_reducible refine LeO.bind ?_ (fun _ => ?_))
   | exact ih0 _ _ _ _ _ _ _ _ _ _ _
   | exact ih1 _ _ _ _ _ _ _ _ _ _ _
   | exact code_Decode.mono _ _
   | exact vouchkit_SameProgram.mono _ _ _ _ _ _ _ _ _
   | exact vouchkit_SpoilProgram.mono _ _ _ _ _
   | exact vouchlaw21_works.mono _
   | exact vouchref21_Decode.mono _ _
   | exact LeO.none _
   | refine LeO.ite ?_ ?_
   | refine LeO.bind ?_ (fun _ => ?_)
theorem vouchlaw21_CodeReads.mono : ∀ a0 k, LeO (vouchlaw21_CodeReads.f k a0) (vouchlaw21_CodeReads.f (k + 1) a0) := by
 intro a0 k
 obtain ⟨ih0, ih1⟩ := vouchlaw21_CodeReads.mono_l k
 unfold vouchlaw21_CodeReads.f
 repeat' first
   | (with_reducible exact ih0 _ _ _ _ _ _ _ _ _ _ _)
   | (with_reducible exact ih1 _ _ _ _ _ _ _ _ _ _ _)
   | (with_reducible exact code_Decode.mono _ _)
   | (with_reducible exact vouchkit_SameProgram.mono _ _ _ _ _ _ _ _ _)
   | (with_reducible exact vouchkit_SpoilProgram.mono _ _ _ _ _)
   | (with_reducible exact vouchlaw21_works.mono _)
   | (with_reducible exact vouchref21_Decode.mono _ _)
   | (with_reducible exact LeO.refl _)
   | (with_reducible exact LeO.none _)
   | (with_reducible refine LeO.ite ?_ ?_)
   | (with_reducible refine LeO.bind ?_ (fun _ => ?_))
   | exact ih0 _ _ _ _ _ _ _ _ _ _ _
   | exact ih1 _ _ _ _ _ _ _ _ _ _ _
   | exact code_Decode.mono _ _
   | exact vouchkit_SameProgram.mono _ _ _ _ _ _ _ _ _
   | exact vouchkit_SpoilProgram.mono _ _ _ _ _
   | exact vouchlaw21_works.mono _
   | exact vouchref21_Decode.mono _ _
   | exact LeO.none _
   | refine LeO.ite ?_ ?_
   | refine LeO.bind ?_ (fun _ => ?_)
def vouchlaw21_CodeReads.T6 : Bool × List (List Nat × List Nat) := (true, [([], []), ([], []), ([0, 1], [0, 1]), ([2], [2]), ([3, 2], [3]), ([4], [4]), ([4], [4]), ([5, 6, 4], [4, 5, 6]), ([4, 7], [4, 7]), ([8, 4], [8]), ([9], [9]), ([9], [9]), ([10, 11, 9], [9, 10, 11]), ([9, 12], [9, 12]), ([13, 9], [13]), ([14], [14]), ([14], [14]), ([16, 14], [14, 16]), ([15, 17, 14], [14, 15, 17]), ([18, 14], [14, 18]), ([14], [14]), ([20, 14], [14, 20]), ([19, 21, 14], [14, 19, 21]), ([14, 22], [14, 22]), ([23, 14], [23]), ([24], [24]), ([24], [24]), ([26, 24], [24, 26]), ([25, 27, 24], [24, 25, 27]), ([28, 24], [24, 28]), ([29, 24], [24, 29]), ([24, 30], [24, 30])])
def vouchlaw21_CodeReads.B6 : List Nat := [0, 0, 3, 7, 15, 31, 31, 127, 255, 511, 1023, 1023, 4095, 8191, 16383, 32767, 32767, 98303, 262143, 524287, 32767, 1081343, 4194303, 8388607, 16777215, 33554431, 33554431, 100663295, 268435455, 536870911, 1073741823, 2147483647]
theorem vouchlaw21_CodeReads.tab6 : rtab .any (opsOf Try.f6 6) = vouchlaw21_CodeReads.T6 := by kernel_rfl
theorem vouchlaw21_CodeReads.bits6 : waitsOk vouchlaw21_CodeReads.T6.2 vouchlaw21_CodeReads.B6 = true := by kernel_rfl
set_option maxHeartbeats 8000000 in
set_option maxRecDepth 100000 in
theorem vouchlaw21_CodeReads.calls (k : Nat) (A0 : Option Addr) (c0 : Nat) (l0 : List Int) (r : Bool) (w : World) (hr0 : Kd.C (Kd.int .u8) w A0 l0.length l0) (hc0 : l0.length ≤ c0) (h : vouchlaw21_CodeReads.f k l0 = some r) :
  Calls Try.prog 6 #[.slice A0 l0.length c0] w fun e w' => e = .returned (.bool r) ∧ Below w.heap.size w w' := by
 have hu25 := Try.underlying25
 have HR0 := Aside0.mk hr0
 have HC0 := Aside0.mk hc0
 clear hr0 hc0
 have HB := Aside0.mk (Below.refl w.heap.size w)
 have H : (if ([] : List Int).length + l0.length < 140737488355328 then ((some (([] : List Int) ++ l0 : List Int)).bind fun y101 => (if y101.length < 140737488355328 then ((some (y101 ++ [77] : List Int)).bind fun y104 => ((vouchref21_Decode.f k l0).bind fun bt107 => (if 0 ≤ (l0.length : Int) then (if (l0.length : Int) ≤ (y104.length : Int) then ((code_Decode.f k (y104.take ((l0.length : Int) : Int).toNat)).bind fun bt122 => ((vouchkit_SameProgram.f k bt122.1 bt122.2.1 bt122.2.2.1 bt122.2.2.2.1 bt107.1 bt107.2.1 bt107.2.2.1 bt107.2.2.2.1).bind fun t133 => (if t133 = true then (if bt122.2.2.2.2.1 = bt107.2.2.2.2.1 then (if bt122.2.2.2.2.2 = bt107.2.2.2.2.2 then (if (strOfNums (y104.take ((l0.length : Int) : Int).toNat)).toList = (strOfNums l0).toList then (if (l0.length : Int) < (y104.length : Int) then (vouchlaw21_CodeReads.j0 k l0 y104 ((rd y104 (l0.length : Int)) != 77) bt107.1 bt107.2.1 bt107.2.2.1 bt107.2.2.2.1 bt122.1 bt122.2.1 bt122.2.2.1 bt122.2.2.2.1) else (none)) else (vouchlaw21_CodeReads.j0 k l0 y104 true bt107.1 bt107.2.1 bt107.2.2.1 bt107.2.2.2.1 bt122.1 bt122.2.1 bt122.2.2.1 bt122.2.2.2.1)) else (vouchlaw21_CodeReads.j0 k l0 y104 true bt107.1 bt107.2.1 bt107.2.2.1 bt107.2.2.2.1 bt122.1 bt122.2.1 bt122.2.2.1 bt122.2.2.2.1)) else (vouchlaw21_CodeReads.j0 k l0 y104 true bt107.1 bt107.2.1 bt107.2.2.1 bt107.2.2.2.1 bt122.1 bt122.2.1 bt122.2.2.1 bt122.2.2.2.1)) else (vouchlaw21_CodeReads.j0 k l0 y104 true bt107.1 bt107.2.1 bt107.2.2.1 bt107.2.2.2.1 bt122.1 bt122.2.1 bt122.2.2.1 bt122.2.2.2.1)))) else (none)) else (none)))) else (none))) else (none)) = some r := h
 clear h
 by_cases c2 : ([] : List Int).length + l0.length < 140737488355328
 ·rw [if_pos c2] at H
  have LMc2 := Aside0.mk c2
  clear c2
  obtain ⟨y101, hy101⟩ : ∃ y_ : List Int, y_ = (([] : List Int) ++ l0) := ⟨_, rfl⟩
  replace H : (if y101.length < 140737488355328 then ((some (y101 ++ [77] : List Int)).bind fun y104 => ((vouchref21_Decode.f k l0).bind fun bt107 => (if 0 ≤ (l0.length : Int) then (if (l0.length : Int) ≤ (y104.length : Int) then ((code_Decode.f k (y104.take ((l0.length : Int) : Int).toNat)).bind fun bt122 => ((vouchkit_SameProgram.f k bt122.1 bt122.2.1 bt122.2.2.1 bt122.2.2.2.1 bt107.1 bt107.2.1 bt107.2.2.1 bt107.2.2.2.1).bind fun t133 => (if t133 = true then (if bt122.2.2.2.2.1 = bt107.2.2.2.2.1 then (if bt122.2.2.2.2.2 = bt107.2.2.2.2.2 then (if (strOfNums (y104.take ((l0.length : Int) : Int).toNat)).toList = (strOfNums l0).toList then (if (l0.length : Int) < (y104.length : Int) then (vouchlaw21_CodeReads.j0 k l0 y104 ((rd y104 (l0.length : Int)) != 77) bt107.1 bt107.2.1 bt107.2.2.1 bt107.2.2.2.1 bt122.1 bt122.2.1 bt122.2.2.1 bt122.2.2.2.1) else (none)) else (vouchlaw21_CodeReads.j0 k l0 y104 true bt107.1 bt107.2.1 bt107.2.2.1 bt107.2.2.2.1 bt122.1 bt122.2.1 bt122.2.2.1 bt122.2.2.2.1)) else (vouchlaw21_CodeReads.j0 k l0 y104 true bt107.1 bt107.2.1 bt107.2.2.1 bt107.2.2.2.1 bt122.1 bt122.2.1 bt122.2.2.1 bt122.2.2.2.1)) else (vouchlaw21_CodeReads.j0 k l0 y104 true bt107.1 bt107.2.1 bt107.2.2.1 bt107.2.2.2.1 bt122.1 bt122.2.1 bt122.2.2.1 bt122.2.2.2.1)) else (vouchlaw21_CodeReads.j0 k l0 y104 true bt107.1 bt107.2.1 bt107.2.2.1 bt107.2.2.2.1 bt122.1 bt122.2.1 bt122.2.2.1 bt122.2.2.2.1)))) else (none)) else (none)))) else (none)) = some r := by first | (rw [hy101]; with_reducible exact H) | (have H2_ := (Option.bind_some _ _).symm.trans H; rw [hy101]; with_reducible exact H2_) | (have H2_ := (Option.bind_some _ _).symm.trans H; with_reducible exact H2_) | with_reducible exact H | (rw [hy101]; exact H) | exact H
  have Ny101 := Aside0.mk hy101
  clear hy101
  by_cases c3 : y101.length < 140737488355328
  ·rw [if_pos c3] at H
   have LMc3 := Aside0.mk c3
   clear c3
   obtain ⟨y104, hy104⟩ : ∃ y_ : List Int, y_ = (y101 ++ [77]) := ⟨_, rfl⟩
   replace H : ((vouchref21_Decode.f k l0).bind fun bt107 => (if 0 ≤ (l0.length : Int) then (if (l0.length : Int) ≤ (y104.length : Int) then ((code_Decode.f k (y104.take ((l0.length : Int) : Int).toNat)).bind fun bt122 => ((vouchkit_SameProgram.f k bt122.1 bt122.2.1 bt122.2.2.1 bt122.2.2.2.1 bt107.1 bt107.2.1 bt107.2.2.1 bt107.2.2.2.1).bind fun t133 => (if t133 = true then (if bt122.2.2.2.2.1 = bt107.2.2.2.2.1 then (if bt122.2.2.2.2.2 = bt107.2.2.2.2.2 then (if (strOfNums (y104.take ((l0.length : Int) : Int).toNat)).toList = (strOfNums l0).toList then (if (l0.length : Int) < (y104.length : Int) then (vouchlaw21_CodeReads.j0 k l0 y104 ((rd y104 (l0.length : Int)) != 77) bt107.1 bt107.2.1 bt107.2.2.1 bt107.2.2.2.1 bt122.1 bt122.2.1 bt122.2.2.1 bt122.2.2.2.1) else (none)) else (vouchlaw21_CodeReads.j0 k l0 y104 true bt107.1 bt107.2.1 bt107.2.2.1 bt107.2.2.2.1 bt122.1 bt122.2.1 bt122.2.2.1 bt122.2.2.2.1)) else (vouchlaw21_CodeReads.j0 k l0 y104 true bt107.1 bt107.2.1 bt107.2.2.1 bt107.2.2.2.1 bt122.1 bt122.2.1 bt122.2.2.1 bt122.2.2.2.1)) else (vouchlaw21_CodeReads.j0 k l0 y104 true bt107.1 bt107.2.1 bt107.2.2.1 bt107.2.2.2.1 bt122.1 bt122.2.1 bt122.2.2.1 bt122.2.2.2.1)) else (vouchlaw21_CodeReads.j0 k l0 y104 true bt107.1 bt107.2.1 bt107.2.2.1 bt107.2.2.2.1 bt122.1 bt122.2.1 bt122.2.2.1 bt122.2.2.2.1)))) else (none)) else (none))) = some r := by first | (rw [hy104]; with_reducible exact H) | (have H2_ := (Option.bind_some _ _).symm.trans H; rw [hy104]; with_reducible exact H2_) | (have H2_ := (Option.bind_some _ _).symm.trans H; with_reducible exact H2_) | with_reducible exact H | (rw [hy104]; exact H) | exact H
   have Ny104 := Aside0.mk hy104
   clear hy104
   replace H := Option.bind_eq_some_iff.mp H
   obtain ⟨⟨t107, t108, t111, t114, t115, t116⟩, A40, H⟩ := H
   replace H : (if 0 ≤ (l0.length : Int) then (if (l0.length : Int) ≤ (y104.length : Int) then ((code_Decode.f k (y104.take ((l0.length : Int) : Int).toNat)).bind fun bt122 => ((vouchkit_SameProgram.f k bt122.1 bt122.2.1 bt122.2.2.1 bt122.2.2.2.1 t107 t108 t111 t114).bind fun t133 => (if t133 = true then (if bt122.2.2.2.2.1 = t115 then (if bt122.2.2.2.2.2 = t116 then (if (strOfNums (y104.take ((l0.length : Int) : Int).toNat)).toList = (strOfNums l0).toList then (if (l0.length : Int) < (y104.length : Int) then (vouchlaw21_CodeReads.j0 k l0 y104 ((rd y104 (l0.length : Int)) != 77) t107 t108 t111 t114 bt122.1 bt122.2.1 bt122.2.2.1 bt122.2.2.2.1) else (none)) else (vouchlaw21_CodeReads.j0 k l0 y104 true t107 t108 t111 t114 bt122.1 bt122.2.1 bt122.2.2.1 bt122.2.2.2.1)) else (vouchlaw21_CodeReads.j0 k l0 y104 true t107 t108 t111 t114 bt122.1 bt122.2.1 bt122.2.2.1 bt122.2.2.2.1)) else (vouchlaw21_CodeReads.j0 k l0 y104 true t107 t108 t111 t114 bt122.1 bt122.2.1 bt122.2.2.1 bt122.2.2.2.1)) else (vouchlaw21_CodeReads.j0 k l0 y104 true t107 t108 t111 t114 bt122.1 bt122.2.1 bt122.2.2.1 bt122.2.2.2.1)))) else (none)) else (none)) = some r := H
   have A4 := Aside0.mk A40
   clear A40
   by_cases c5 : 0 ≤ (l0.length : Int)
   ·rw [if_pos c5] at H
    have c5b0 := eq_true c5
    have c5b1 : decide (0 ≤ (l0.length : Int)) = true := decide_eq_true c5
    clear c5
    by_cases c6 : (l0.length : Int) ≤ (y104.length : Int)
    ·rw [if_pos c6] at H
     have c6b0 := eq_true c6
     have c6b1 : decide ((l0.length : Int) ≤ (y104.length : Int)) = true := decide_eq_true c6
     clear c6
     obtain ⟨y118, hy118⟩ : ∃ y_ : List Int, y_ = (y104.take ((l0.length : Int) : Int).toNat) := ⟨_, rfl⟩
     replace H : ((code_Decode.f k y118).bind fun bt122 => ((vouchkit_SameProgram.f k bt122.1 bt122.2.1 bt122.2.2.1 bt122.2.2.2.1 t107 t108 t111 t114).bind fun t133 => (if t133 = true then (if bt122.2.2.2.2.1 = t115 then (if bt122.2.2.2.2.2 = t116 then (if (strOfNums (y104.take ((l0.length : Int) : Int).toNat)).toList = (strOfNums l0).toList then (if (l0.length : Int) < (y104.length : Int) then (vouchlaw21_CodeReads.j0 k l0 y104 ((rd y104 (l0.length : Int)) != 77) t107 t108 t111 t114 bt122.1 bt122.2.1 bt122.2.2.1 bt122.2.2.2.1) else (none)) else (vouchlaw21_CodeReads.j0 k l0 y104 true t107 t108 t111 t114 bt122.1 bt122.2.1 bt122.2.2.1 bt122.2.2.2.1)) else (vouchlaw21_CodeReads.j0 k l0 y104 true t107 t108 t111 t114 bt122.1 bt122.2.1 bt122.2.2.1 bt122.2.2.2.1)) else (vouchlaw21_CodeReads.j0 k l0 y104 true t107 t108 t111 t114 bt122.1 bt122.2.1 bt122.2.2.1 bt122.2.2.2.1)) else (vouchlaw21_CodeReads.j0 k l0 y104 true t107 t108 t111 t114 bt122.1 bt122.2.1 bt122.2.2.1 bt122.2.2.2.1)))) = some r := by first | (rw [hy118]; with_reducible exact H) | (have H2_ := (Option.bind_some _ _).symm.trans H; rw [hy118]; with_reducible exact H2_) | (have H2_ := (Option.bind_some _ _).symm.trans H; with_reducible exact H2_) | with_reducible exact H | (rw [hy118]; exact H) | exact H
     have Ny118 := Aside0.mk hy118
     clear hy118
     replace H := Option.bind_eq_some_iff.mp H
     obtain ⟨⟨t122, t123, t126, t129, t130, t131⟩, A70, H⟩ := H
     replace H : ((vouchkit_SameProgram.f k t122 t123 t126 t129 t107 t108 t111 t114).bind fun t133 => (if t133 = true then (if t130 = t115 then (if t131 = t116 then (if (strOfNums (y104.take ((l0.length : Int) : Int).toNat)).toList = (strOfNums l0).toList then (if (l0.length : Int) < (y104.length : Int) then (vouchlaw21_CodeReads.j0 k l0 y104 ((rd y104 (l0.length : Int)) != 77) t107 t108 t111 t114 t122 t123 t126 t129) else (none)) else (vouchlaw21_CodeReads.j0 k l0 y104 true t107 t108 t111 t114 t122 t123 t126 t129)) else (vouchlaw21_CodeReads.j0 k l0 y104 true t107 t108 t111 t114 t122 t123 t126 t129)) else (vouchlaw21_CodeReads.j0 k l0 y104 true t107 t108 t111 t114 t122 t123 t126 t129)) else (vouchlaw21_CodeReads.j0 k l0 y104 true t107 t108 t111 t114 t122 t123 t126 t129))) = some r := H
     have A7 := Aside0.mk A70
     clear A70
     have HC8 := Aside0.mk H
     clear H
     go_enter Try.func6, Try.ntmps6
     go_upto_region 6 with (first | ((with_reducible refine gate_builtin (b := .append) (xs := #[.tmp 14, .tmp 15]) rfl ?_); (try (refine gate_guard (by rfl) ?_; dsimp only)); at_builtin; refine Kd.R_append_rows (Kd.int .u8) (w0 := w) w.heap.size rfl (.tmp 14) (.tmp 15) 27 5 (.int .u8 0) 1 rfl Try.underlying27 info5 rfl (by decide) (by omega) (.slice none 0 0) ([] : List Int) l0 _ _ _ (fun _ => True) (fun _ => False) rfl rfl ?aO ?aR (fun _ _ h => h) (fun _ h => h.elim) ?aF ?aB ?aS ?aL ?_; (case aR => repeat (first | exact HR0.out | (with_reducible refine Kd.C_alloc ?_ _) | (with_reducible refine Kd.C_drewN ?_ _) | (with_reducible refine Kd.C_drew ?_))); (case aB => exact (bl HB)); (case aF => exact (fun _ _ => trivial)); (case aO => exact ((Kd.R_nil _ _ _ _ (fun _ => True)))); (case aS => exact (below_size (bl HB))); (case aL => have := LMc2.out; omega); intro v102 w9 ho hb hg hat; rw [← Ny101.out] at ho; have n0_ := Aside0.mk (hb); have n1_ := Aside0.mk (ho); clear HB; have HB := n0_; have HO103 := n1_; clear n0_ n1_; clear ho hb hg hat) | ((with_reducible refine gate_builtin (b := .append) (xs := #[.tmp 17, .tmp 18]) rfl ?_); (try (refine gate_guard (by rfl) ?_; dsimp only)); at_builtin; refine Kd.R_append (Kd.int .u8) (w0 := w) w.heap.size rfl (.tmp 17) (.tmp 18) 27 5 (.int .u8 0) 1 rfl Try.underlying27 info5 rfl (by decide) (by omega) v102 y101 77 [.int .u8 77] (fun _ => True) (fun _ => False) rfl rfl ?aP (fun _ hk => hk.elim) ?aF ?aO ?aB ?aS ?aL ?_; (case aP => exact rfl); (case aB => exact (bl HB)); (case aF => exact (fun _ _ => trivial)); (case aO => exact (kr HO103)); (case aS => exact (below_size (bl HB))); (case aL => have := LMc3.out; omega); intro v105 w10 ho hb hg hat; rw [← Ny104.out] at ho; have n0_ := Aside0.mk (hb); have n1_ := Aside0.mk (ho); clear HB; clear HO103; have HB := n0_; have HO106 := n1_; clear n0_ n1_; clear ho hb hg hat) | ((with_reducible refine gate_callee (f := 19) rfl ?_); refine goesL_ (some 22) rfl rfl Try.func19 (by kernel_rfl) rfl #[.slice A0 l0.length c0] rfl (by (try simp only [List.map_toArray, List.map_cons, List.map_nil]); first | done | rfl | (simp only [List.length_drop, List.length_take]; rfl)) ?_; (with_reducible refine (vouchref21_Decode.calls k _ _ l0 t107 t108 t111 t114 t115 t116 _ ?side1 ?side2 A4.out).mono ?_); (case side1 => repeat (first | exact (Kd.C_below HR0.out HB.out) | (with_reducible refine Kd.C_alloc ?_ _) | (with_reducible refine Kd.C_drewN ?_ _) | (with_reducible refine Kd.C_drew ?_))); (case side2 => exact HC0.out); rintro e w11 ⟨v109, v112, rfl, ho0, ho1, hb⟩; refine ⟨_, rfl, ?_⟩; have n0_ := Aside0.mk (Kd.R_below (kr HO106) hb); have n1_ := Aside0.mk (Kd.R_lower ho0 (below_size (bl HB))); have n2_ := Aside0.mk (Kd.R_lower ho1 (below_size (bl HB))); have n3_ := Aside0.mk (below_step (bl HB) hb); clear HO106; clear HB; have HO106 := n0_; have HO110 := n1_; have HO113 := n2_; have HB := n3_; clear n0_ n1_ n2_ n3_; (try clear hb); (try clear hb2); (try clear hk); (try clear hi); (try clear ho0); (try clear ho1)) | ((with_reducible refine gate_dst (N := 4) rfl ?_); (try (refine gate_guard (by rfl) ?_; dsimp only)); refine box_event ?hg (N := 4) ?hd (cs := #[.int .u8 0, .slice none 0 0, .slice none 0 0, .int .i64 0]) (t := 25) ?hr ?_; (case hd => rfl); (case hg => rfl); (case hr => first | (go_simp; done) | (go_simp; rfl)); intro gb117 hg w12 hbox hb; have n0_ := Aside0.mk (Kd.R_below (kr HO106) hb); have n1_ := Aside0.mk (Kd.R_below (kr HO110) hb); have n2_ := Aside0.mk (Kd.R_below (kr HO113) hb); have n3_ := Aside0.mk (below_step (bl HB) hb); have n4_ := Aside0.mk (hbox); have n5_ := Aside0.mk ((by rw [hg]; exact (below_size (bl HB)) : w.heap.size ≤ gb117)); have n6_ := Aside0.mk ((by rw [hg]; exact (below_size (bl HB)) : w.heap.size ≤ gb117)); clear HO106; clear HO110; clear HO113; clear HB; have HO106 := n0_; have HO110 := n1_; have HO113 := n2_; have HB := n3_; have BK117 := n4_; have GW117 := n5_; have GE117 := n6_; clear n0_ n1_ n2_ n3_ n4_ n5_ n6_; clear hb hbox hg; have hcz13_0 : w12.cell? ⟨gb117, 0, none⟩ = some (.int .u8 0) := (blk_cell BK117.out 0).trans rfl; have hcz13_1 : w12.cell? ⟨gb117, 1, none⟩ = some (.slice none 0 0) := (blk_cell BK117.out 1).trans rfl; have hcz13_2 : w12.cell? ⟨gb117, 2, none⟩ = some (.slice none 0 0) := (blk_cell BK117.out 2).trans rfl; have hcz13_3 : w12.cell? ⟨gb117, 3, none⟩ = some (.int .i64 0) := (blk_cell BK117.out 3).trans rfl; have hfz13_0 := blk_frozen BK117.out 0; have hfz13_1 := blk_frozen BK117.out 1; have hfz13_2 := blk_frozen BK117.out 2; have hfz13_3 := blk_frozen BK117.out 3; obtain ⟨Ao14, co14, eo14⟩ := Kd.R_slice HO110.out; subst eo14; obtain ⟨Ao15, co15, eo15⟩ := Kd.R_slice HO113.out; subst eo15) | ((with_reducible refine gate_store (t := 25) (p := 4) rfl ?_); refine store_event (t := 25) (p := 4) (v := ?vo_w16) (w1 := ((((w12.setCell ⟨gb117, 0, none⟩ (.int .u8 t107)).setCell ⟨gb117, 1, none⟩ (.slice Ao14 t108.length co14)).setCell ⟨gb117, 2, none⟩ (.slice Ao15 t111.length co15)).setCell ⟨gb117, 3, none⟩ (.int .i64 t114))) ?hg ?ho ?hn ?hr ?_; (case ho => rfl); (case hg => rfl); (case hn => rfl); (case hr => first | (go_simp; done) | (go_simp; rfl)); intro w16 hw; have n0_ : Aside0 (Kd.R (Kd.int .u8) 5 w16 w.heap.size (fun _ => True) v105 y104) := ⟨(by rw [hw]; exact (by (with_reducible repeat (first | apply Kd.R_alloc | apply Kd.R_drewN | apply Kd.R_drew)); exact Kd.R_mono (Kd.R_far (p := ⟨gb117, 3, none⟩) (Kd.R_far (p := ⟨gb117, 2, none⟩) (Kd.R_far (p := ⟨gb117, 1, none⟩) (Kd.R_far (p := ⟨gb117, 0, none⟩) (Kd.R_types HO106.out BK117.out (by decide)) (fun _ hk => hk.2) (.int .u8 t107)) (fun _ hk => hk.2) (.slice Ao14 t108.length co14)) (fun _ hk => hk.2) (.slice Ao15 t111.length co15)) (fun _ hk => hk.2) (.int .i64 t114)) (fun _ hk => trivial)))⟩; have n1_ : Aside0 (Kd.R Kd.string 9 w16 w.heap.size (fun _ => True) (.slice Ao14 t108.length co14) t108) := ⟨(by rw [hw]; exact (by (with_reducible repeat (first | apply Kd.R_alloc | apply Kd.R_drewN | apply Kd.R_drew)); exact Kd.R_mono (Kd.R_far (p := ⟨gb117, 3, none⟩) (Kd.R_far (p := ⟨gb117, 2, none⟩) (Kd.R_far (p := ⟨gb117, 1, none⟩) (Kd.R_far (p := ⟨gb117, 0, none⟩) (Kd.R_types HO110.out BK117.out (by decide)) (fun _ hk => hk.2) (.int .u8 t107)) (fun _ hk => hk.2) (.slice Ao14 t108.length co14)) (fun _ hk => hk.2) (.slice Ao15 t111.length co15)) (fun _ hk => hk.2) (.int .i64 t114)) (fun _ hk => trivial)))⟩; have n2_ : Aside0 (Kd.R k41 41 w16 w.heap.size (fun _ => True) (.slice Ao15 t111.length co15) t111) := ⟨(by rw [hw]; exact (by (with_reducible repeat (first | apply Kd.R_alloc | apply Kd.R_drewN | apply Kd.R_drew)); exact Kd.R_mono (Kd.R_far (p := ⟨gb117, 3, none⟩) (Kd.R_far (p := ⟨gb117, 2, none⟩) (Kd.R_far (p := ⟨gb117, 1, none⟩) (Kd.R_far (p := ⟨gb117, 0, none⟩) (Kd.R_types HO113.out BK117.out (by decide)) (fun _ hk => hk.2) (.int .u8 t107)) (fun _ hk => hk.2) (.slice Ao14 t108.length co14)) (fun _ hk => hk.2) (.slice Ao15 t111.length co15)) (fun _ hk => hk.2) (.int .i64 t114)) (fun _ hk => trivial)))⟩; have n3_ : Aside0 (w16.heap[gb117]? = some (.cells #[.int .u8 t107, .slice Ao14 t108.length co14, .slice Ao15 t111.length co15, .int .i64 t114] 25 (0, 0))) := ⟨(by rw [hw]; exact (by (with_reducible repeat (first | refine blk_drewN ?_ _ | refine blk_drew ?_ | refine blk_alloc ?_ _)); refine blk_put (cs := #[.int .u8 t107, .slice Ao14 t108.length co14, .slice Ao15 t111.length co15, .int .i64 0]) ?_ 3 _ rfl; (with_reducible repeat (first | refine blk_drewN ?_ _ | refine blk_drew ?_ | refine blk_alloc ?_ _)); refine blk_put (cs := #[.int .u8 t107, .slice Ao14 t108.length co14, .slice none 0 0, .int .i64 0]) ?_ 2 _ rfl; (with_reducible repeat (first | refine blk_drewN ?_ _ | refine blk_drew ?_ | refine blk_alloc ?_ _)); refine blk_put (cs := #[.int .u8 t107, .slice none 0 0, .slice none 0 0, .int .i64 0]) ?_ 1 _ rfl; (with_reducible repeat (first | refine blk_drewN ?_ _ | refine blk_drew ?_ | refine blk_alloc ?_ _)); refine blk_put (cs := #[.int .u8 0, .slice none 0 0, .slice none 0 0, .int .i64 0]) ?_ 0 _ rfl; (with_reducible repeat (first | refine blk_drewN ?_ _ | refine blk_drew ?_ | refine blk_alloc ?_ _)); exact BK117.out))⟩; have n4_ : Aside0 (Below w.heap.size w w16) := ⟨(by rw [hw]; exact (bl1 HB GE117))⟩; clear hw; clear HO106; clear HO110; clear HO113; clear BK117; clear HB; have HO106 := n0_; have HO110 := n1_; have HO113 := n2_; have BK117 := n3_; have HB := n4_; clear n0_ n1_ n2_ n3_ n4_; obtain ⟨Ao18, co18, eo18⟩ := Kd.R_slice HO106.out; subst eo18; have q17 : ((l0.length : Int) : Int) ≤ ((y104.length : Int) : Int) := of_decide_eq_true (by first | (with_reducible assumption) | assumption); obtain ⟨i017, hi017, _, hsz17, _⟩ := info_parts info5; have hroom17 : y104.length ≤ co18 := (Kd.R_reads' HO106.out).2.1; have hC17 : Kd.C (Kd.int .u8) _ Ao18 y104.length y104 := (Kd.R_reads' HO106.out).2.2; have hcut17 := cut_to (P := Try.prog) 27 5 .i64 Try.underlying27 hi017 Ao18 y104.length co18 (l0.length : Int) (of_decide_eq_true (by first | (with_reducible assumption) | assumption)) q17 hroom17; have hr17 := Kd.C_take (m := ((l0.length : Int) : Int).toNat) hC17 (by omega); have hy17 : y118.length = ((l0.length : Int) : Int).toNat := (by rw [Ny118.out, List.length_take]; omega); rw [← Ny118.out] at hr17; rw [← hy17] at hcut17; have HR121 := Aside0.mk hr17; have HC121 := Aside0.mk (show y118.length ≤ co18 from by omega); clear hr17 hC17 hroom17 hi017 hsz17; have KY17 := Aside0.mk hy17; clear hy17; have KL17 := Aside0.mk (show ((l0.length : Int) : Int).toNat ≤ y104.length from by omega); replace q17 := eq_true q17) | ((with_reducible refine gate_callee (f := 20) rfl ?_); refine goesL_ (some 31) rfl rfl Try.func20 (by kernel_rfl) rfl #[.slice Ao18 y118.length co18] rfl (by (try simp only [List.map_toArray, List.map_cons, List.map_nil]); first | done | rfl | (simp only [List.length_drop, List.length_take]; rfl)) ?_; (with_reducible refine (code_Decode.calls k _ _ y118 t122 t123 t126 t129 t130 t131 _ ?side1 ?side2 A7.out).mono ?_); (case side1 => repeat (first | exact (by repeat (first | (with_reducible exact HR121.out) | (with_reducible refine Kd.C_alloc ?_ _) | (with_reducible refine Kd.C_drewN ?_ _) | (with_reducible refine Kd.C_drew ?_) | exact HR121.out)) | (with_reducible refine Kd.C_alloc ?_ _) | (with_reducible refine Kd.C_drewN ?_ _) | (with_reducible refine Kd.C_drew ?_))); (case side2 => exact HC121.out); rintro e w19 ⟨v124, v127, rfl, ho0, ho1, hb⟩; refine ⟨_, rfl, ?_⟩; have n0_ := Aside0.mk (Kd.R_below (kr HO106) hb); have n1_ := Aside0.mk (Kd.R_elder' (kr HO110) (Kd.R_base ho0) hb); have n2_ := Aside0.mk (Kd.R_elder' (kr HO113) (Kd.R_base ho1) hb); have n3_ := Aside0.mk (Kd.R_lower (Kd.R_new' ho0 (Kd.R_lt (kr HO110))) (below_size (bl1 HB GE117))); have n4_ := Aside0.mk (Kd.R_lower (Kd.R_new' ho1 (Kd.R_lt (kr HO113))) (below_size (bl1 HB GE117))); have n5_ := Aside0.mk (blk_below (g := gb117) (o := .cells #[.int .u8 t107, .slice Ao14 t108.length co14, .slice Ao15 t111.length co15, .int .i64 t114] 25 (0, 0)) (bk BK117) hb); have n6_ := Aside0.mk (Kd.C_below (by repeat (first | (with_reducible exact HR121.out) | (with_reducible refine Kd.C_alloc ?_ _) | (with_reducible refine Kd.C_drewN ?_ _) | (with_reducible refine Kd.C_drew ?_) | exact HR121.out)) hb); have n7_ := Aside0.mk (below_step (bl1 HB GE117) hb); clear HO106; clear HO110; clear HO113; clear BK117; clear HR121; clear HB; have HO106 := n0_; have HO110 := n1_; have HO113 := n2_; have HO125 := n3_; have HO128 := n4_; have BK117 := n5_; have HR121 := n6_; have HB := n7_; clear n0_ n1_ n2_ n3_ n4_ n5_ n6_ n7_; (try clear hb); (try clear hb2); (try clear hk); (try clear hi); (try clear ho0); (try clear ho1)) | ((with_reducible refine gate_dst (N := 7) rfl ?_); (try (refine gate_guard (by rfl) ?_; dsimp only)); refine box_event ?hg (N := 7) ?hd (cs := #[.int .u8 0, .slice none 0 0, .slice none 0 0, .int .i64 0]) (t := 25) ?hr ?_; (case hd => rfl); (case hg => rfl); (case hr => first | (go_simp; done) | (go_simp; rfl)); intro gb132 hg w20 hbox hb; have n0_ := Aside0.mk (Kd.R_below (kr HO106) hb); have n1_ := Aside0.mk (Kd.R_below (kr HO110) hb); have n2_ := Aside0.mk (Kd.R_below (kr HO113) hb); have n3_ := Aside0.mk (Kd.R_below (kr HO125) hb); have n4_ := Aside0.mk (Kd.R_below (kr HO128) hb); have n5_ := Aside0.mk (blk_below (g := gb117) (o := .cells #[.int .u8 t107, .slice Ao14 t108.length co14, .slice Ao15 t111.length co15, .int .i64 t114] 25 (0, 0)) (bk BK117) hb); have n6_ := Aside0.mk (Kd.C_below (by repeat (first | (with_reducible exact HR121.out) | (with_reducible refine Kd.C_alloc ?_ _) | (with_reducible refine Kd.C_drewN ?_ _) | (with_reducible refine Kd.C_drew ?_) | exact HR121.out)) hb); have n7_ := Aside0.mk (below_step (bl1 HB GE117) hb); have n8_ := Aside0.mk (hbox); have n9_ := Aside0.mk ((by rw [hg]; exact (below_size (bl1 HB GE117)) : w.heap.size ≤ gb132)); have n10_ := Aside0.mk ((by rw [hg]; exact (below_size (bl1 HB GE117)) : w.heap.size ≤ gb132)); have n11_ := Aside0.mk ((by rw [hg]; exact Nat.ne_of_lt (blk_lt (g := gb117) (o := .cells #[.int .u8 t107, .slice Ao14 t108.length co14, .slice Ao15 t111.length co15, .int .i64 t114] 25 (0, 0)) (bk BK117)) : gb117 ≠ gb132)); have n12_ := Aside0.mk ((by rw [hg]; exact Nat.ne_of_gt (blk_lt (g := gb117) (o := .cells #[.int .u8 t107, .slice Ao14 t108.length co14, .slice Ao15 t111.length co15, .int .i64 t114] 25 (0, 0)) (bk BK117)) : gb132 ≠ gb117)); clear HO106; clear HO110; clear HO113; clear HO125; clear HO128; clear BK117; clear HR121; clear HB; have HO106 := n0_; have HO110 := n1_; have HO113 := n2_; have HO125 := n3_; have HO128 := n4_; have BK117 := n5_; have HR121 := n6_; have HB := n7_; have BK132 := n8_; have GW132 := n9_; have GE132 := n10_; have NB117_132 := n11_; have NB132_117 := n12_; clear n0_ n1_ n2_ n3_ n4_ n5_ n6_ n7_ n8_ n9_ n10_ n11_ n12_; clear hb hbox hg; have hnb21 := NB132_117.out; have hnc21 := NB117_132.out; have hcz22_0 : w20.cell? ⟨gb132, 0, none⟩ = some (.int .u8 0) := (blk_cell BK132.out 0).trans rfl; have hcz22_1 : w20.cell? ⟨gb132, 1, none⟩ = some (.slice none 0 0) := (blk_cell BK132.out 1).trans rfl; have hcz22_2 : w20.cell? ⟨gb132, 2, none⟩ = some (.slice none 0 0) := (blk_cell BK132.out 2).trans rfl; have hcz22_3 : w20.cell? ⟨gb132, 3, none⟩ = some (.int .i64 0) := (blk_cell BK132.out 3).trans rfl; have hfz22_0 := blk_frozen BK132.out 0; have hfz22_1 := blk_frozen BK132.out 1; have hfz22_2 := blk_frozen BK132.out 2; have hfz22_3 := blk_frozen BK132.out 3; obtain ⟨Ao23, co23, eo23⟩ := Kd.R_slice HO125.out; subst eo23; obtain ⟨Ao24, co24, eo24⟩ := Kd.R_slice HO128.out; subst eo24))
     (try simp only [Act.put, List.setIfInBounds_toArray, List.set_cons_zero, List.set_cons_succ])
     go_cut [66] (fun v66 wc => ∃ (kq : Nat) (x66_7 : Bool), v66 = .bool x66_7 ∧ Aside0 (vouchlaw21_CodeReads.j0 kq l0 y104 x66_7 t107 t108 t111 t114 t122 t123 t126 t129 = some r) ∧ Aside0 (kq ≤ k) ∧ Aside0 (Kd.R (Kd.int .u8) 5 wc w.heap.size (fun _ => True) (.slice Ao18 y104.length co18) y104) ∧ Aside0 (Kd.R Kd.string 9 wc w.heap.size (fun k_ => some k_ ≠ ((.slice Ao23 t123.length co23) : Value).ownBlock) (.slice Ao14 t108.length co14) t108) ∧ Aside0 (Kd.R k41 41 wc w.heap.size (fun k_ => some k_ ≠ ((.slice Ao24 t126.length co24) : Value).ownBlock) (.slice Ao15 t111.length co15) t111) ∧ Aside0 (Kd.R Kd.string 9 wc w.heap.size (fun k_ => some k_ ≠ ((.slice Ao14 t108.length co14) : Value).ownBlock) (.slice Ao23 t123.length co23) t123) ∧ Aside0 (Kd.R k41 41 wc w.heap.size (fun k_ => some k_ ≠ ((.slice Ao15 t111.length co15) : Value).ownBlock) (.slice Ao24 t126.length co24) t126) ∧ Aside0 (wc.heap[gb117]? = some (.cells #[.int .u8 t107, (.slice Ao14 t108.length co14), (.slice Ao15 t111.length co15), .int .i64 t114] 25 (0, 0))) ∧ Aside0 (wc.heap[gb132]? = some (.cells #[.int .u8 t122, (.slice Ao23 t123.length co23), (.slice Ao24 t126.length co24), .int .i64 t129] 25 (0, 0))) ∧ Aside0 (Below w.heap.size w wc))
     case first =>
      have H := HC8.out
      clear HC8
      replace H := Option.bind_eq_some_iff.mp H
      obtain ⟨t133, A250, H⟩ := H
      replace H : (if t133 = true then (if t130 = t115 then (if t131 = t116 then (if (strOfNums (y104.take ((l0.length : Int) : Int).toNat)).toList = (strOfNums l0).toList then (if (l0.length : Int) < (y104.length : Int) then (vouchlaw21_CodeReads.j0 k l0 y104 ((rd y104 (l0.length : Int)) != 77) t107 t108 t111 t114 t122 t123 t126 t129) else (none)) else (vouchlaw21_CodeReads.j0 k l0 y104 true t107 t108 t111 t114 t122 t123 t126 t129)) else (vouchlaw21_CodeReads.j0 k l0 y104 true t107 t108 t111 t114 t122 t123 t126 t129)) else (vouchlaw21_CodeReads.j0 k l0 y104 true t107 t108 t111 t114 t122 t123 t126 t129)) else (vouchlaw21_CodeReads.j0 k l0 y104 true t107 t108 t111 t114 t122 t123 t126 t129)) = some r := H
      have A25 := Aside0.mk A250
      clear A250
      by_cases c26 : t133 = true
      ·subst c26
       have H1 : (if t130 = t115 then (if t131 = t116 then (if (strOfNums (y104.take ((l0.length : Int) : Int).toNat)).toList = (strOfNums l0).toList then (if (l0.length : Int) < (y104.length : Int) then (vouchlaw21_CodeReads.j0 k l0 y104 ((rd y104 (l0.length : Int)) != 77) t107 t108 t111 t114 t122 t123 t126 t129) else (none)) else (vouchlaw21_CodeReads.j0 k l0 y104 true t107 t108 t111 t114 t122 t123 t126 t129)) else (vouchlaw21_CodeReads.j0 k l0 y104 true t107 t108 t111 t114 t122 t123 t126 t129)) else (vouchlaw21_CodeReads.j0 k l0 y104 true t107 t108 t111 t114 t122 t123 t126 t129)) = some r := by rw [if_pos rfl] at H; exact H
       clear H
       have H := H1
       clear H1
       by_cases c27 : t130 = t115
       ·rw [if_pos c27] at H
        have c27b0 : (t130 == t115) = true := beq_iff_eq.mpr c27
        have c27b1 : (t130 != t115) = false := bne_eq_false_iff_eq.mpr c27
        clear c27
        (first | rw [c27b0] | (simp only [i64_w, i32_w]; rw [c27b0]) | skip)
        by_cases c28 : t131 = t116
        ·rw [if_pos c28] at H
         have c28b0 : (t131 == t116) = true := beq_iff_eq.mpr c28
         have c28b1 : (t131 != t116) = false := bne_eq_false_iff_eq.mpr c28
         clear c28
         have c29b0 := eq_true (of_decide_eq_true (by first | (with_reducible assumption) | assumption) : 0 ≤ (l0.length : Int))
         have c30b0 := eq_true (of_decide_eq_true (by first | (with_reducible assumption) | assumption) : (l0.length : Int) ≤ (y104.length : Int))
         obtain ⟨y134, hy134⟩ : ∃ y_ : List Int, y_ = (y104.take ((l0.length : Int) : Int).toNat) := ⟨_, rfl⟩
         replace H : (if (strOfNums y134).toList = (strOfNums l0).toList then (if (l0.length : Int) < (y104.length : Int) then (vouchlaw21_CodeReads.j0 k l0 y104 ((rd y104 (l0.length : Int)) != 77) t107 t108 t111 t114 t122 t123 t126 t129) else (none)) else (vouchlaw21_CodeReads.j0 k l0 y104 true t107 t108 t111 t114 t122 t123 t126 t129)) = some r := by first | (rw [hy134]; with_reducible exact H) | (have H2_ := (Option.bind_some _ _).symm.trans H; rw [hy134]; with_reducible exact H2_) | (have H2_ := (Option.bind_some _ _).symm.trans H; with_reducible exact H2_) | with_reducible exact H | (rw [hy134]; exact H) | exact H
         have Ny134 := Aside0.mk hy134
         clear hy134
         by_cases c31 : (strOfNums y134).toList = (strOfNums l0).toList
         ·rw [if_pos c31] at H
          have c31b0 : ((strOfNums y134).toList == (strOfNums l0).toList) = true := beq_iff_eq.mpr c31
          have c31b1 : ((strOfNums y134).toList != (strOfNums l0).toList) = false := bne_eq_false_iff_eq.mpr c31
          clear c31
          by_cases c32 : (l0.length : Int) < (y104.length : Int)
          ·rw [if_pos c32] at H
           have c32b0 : decide ((l0.length : Int) < (y104.length : Int)) = true := decide_eq_true c32
           have c32b1 : decide (l0.length < y104.length) = true := decide_eq_true (Int.ofNat_lt.mp c32)
           clear c32
           have H' := Aside0.mk H
           clear H
           try go_wp2
           have n0_ : Aside0 (Kd.R (Kd.int .u8) 5 ((((w20.setCell ⟨gb132, 0, none⟩ (.int .u8 t122)).setCell ⟨gb132, 1, none⟩ (.slice Ao23 t123.length co23)).setCell ⟨gb132, 2, none⟩ (.slice Ao24 t126.length co24)).setCell ⟨gb132, 3, none⟩ (.int .i64 t129)) w.heap.size (fun _ => True) (.slice Ao18 y104.length co18) y104) := ⟨by (with_reducible repeat (first | apply Kd.R_alloc | apply Kd.R_drewN | apply Kd.R_drew)); exact Kd.R_mono (Kd.R_far (p := ⟨gb132, 3, none⟩) (Kd.R_far (p := ⟨gb132, 2, none⟩) (Kd.R_far (p := ⟨gb132, 1, none⟩) (Kd.R_far (p := ⟨gb132, 0, none⟩) (Kd.R_types HO106.out BK132.out (by decide)) (fun _ hk => hk.2) (.int .u8 t122)) (fun _ hk => hk.2) (.slice Ao23 t123.length co23)) (fun _ hk => hk.2) (.slice Ao24 t126.length co24)) (fun _ hk => hk.2) (.int .i64 t129)) (fun _ hk => trivial)⟩
           have n1_ : Aside0 (Kd.R Kd.string 9 ((((w20.setCell ⟨gb132, 0, none⟩ (.int .u8 t122)).setCell ⟨gb132, 1, none⟩ (.slice Ao23 t123.length co23)).setCell ⟨gb132, 2, none⟩ (.slice Ao24 t126.length co24)).setCell ⟨gb132, 3, none⟩ (.int .i64 t129)) w.heap.size (fun k_ => some k_ ≠ (.slice Ao23 t123.length co23 : Value).ownBlock) (.slice Ao14 t108.length co14) t108) := ⟨by (with_reducible repeat (first | apply Kd.R_alloc | apply Kd.R_drewN | apply Kd.R_drew)); exact Kd.R_mono (Kd.R_far (p := ⟨gb132, 3, none⟩) (Kd.R_far (p := ⟨gb132, 2, none⟩) (Kd.R_far (p := ⟨gb132, 1, none⟩) (Kd.R_far (p := ⟨gb132, 0, none⟩) (Kd.R_types HO110.out BK132.out (by decide)) (fun _ hk => hk.2) (.int .u8 t122)) (fun _ hk => hk.2) (.slice Ao23 t123.length co23)) (fun _ hk => hk.2) (.slice Ao24 t126.length co24)) (fun _ hk => hk.2) (.int .i64 t129)) (fun _ hk => hk.1.2)⟩
           have n2_ : Aside0 (Kd.R k41 41 ((((w20.setCell ⟨gb132, 0, none⟩ (.int .u8 t122)).setCell ⟨gb132, 1, none⟩ (.slice Ao23 t123.length co23)).setCell ⟨gb132, 2, none⟩ (.slice Ao24 t126.length co24)).setCell ⟨gb132, 3, none⟩ (.int .i64 t129)) w.heap.size (fun k_ => some k_ ≠ (.slice Ao24 t126.length co24 : Value).ownBlock) (.slice Ao15 t111.length co15) t111) := ⟨by (with_reducible repeat (first | apply Kd.R_alloc | apply Kd.R_drewN | apply Kd.R_drew)); exact Kd.R_mono (Kd.R_far (p := ⟨gb132, 3, none⟩) (Kd.R_far (p := ⟨gb132, 2, none⟩) (Kd.R_far (p := ⟨gb132, 1, none⟩) (Kd.R_far (p := ⟨gb132, 0, none⟩) (Kd.R_types HO113.out BK132.out (by decide)) (fun _ hk => hk.2) (.int .u8 t122)) (fun _ hk => hk.2) (.slice Ao23 t123.length co23)) (fun _ hk => hk.2) (.slice Ao24 t126.length co24)) (fun _ hk => hk.2) (.int .i64 t129)) (fun _ hk => hk.1.2)⟩
           have n3_ : Aside0 (Kd.R Kd.string 9 ((((w20.setCell ⟨gb132, 0, none⟩ (.int .u8 t122)).setCell ⟨gb132, 1, none⟩ (.slice Ao23 t123.length co23)).setCell ⟨gb132, 2, none⟩ (.slice Ao24 t126.length co24)).setCell ⟨gb132, 3, none⟩ (.int .i64 t129)) w.heap.size (fun k_ => some k_ ≠ (.slice Ao14 t108.length co14 : Value).ownBlock) (.slice Ao23 t123.length co23) t123) := ⟨by (with_reducible repeat (first | apply Kd.R_alloc | apply Kd.R_drewN | apply Kd.R_drew)); exact Kd.R_mono (Kd.R_far (p := ⟨gb132, 3, none⟩) (Kd.R_far (p := ⟨gb132, 2, none⟩) (Kd.R_far (p := ⟨gb132, 1, none⟩) (Kd.R_far (p := ⟨gb132, 0, none⟩) (Kd.R_types HO125.out BK132.out (by decide)) (fun _ hk => hk.2) (.int .u8 t122)) (fun _ hk => hk.2) (.slice Ao23 t123.length co23)) (fun _ hk => hk.2) (.slice Ao24 t126.length co24)) (fun _ hk => hk.2) (.int .i64 t129)) (fun _ hk => hk.1.2)⟩
           have n4_ : Aside0 (Kd.R k41 41 ((((w20.setCell ⟨gb132, 0, none⟩ (.int .u8 t122)).setCell ⟨gb132, 1, none⟩ (.slice Ao23 t123.length co23)).setCell ⟨gb132, 2, none⟩ (.slice Ao24 t126.length co24)).setCell ⟨gb132, 3, none⟩ (.int .i64 t129)) w.heap.size (fun k_ => some k_ ≠ (.slice Ao15 t111.length co15 : Value).ownBlock) (.slice Ao24 t126.length co24) t126) := ⟨by (with_reducible repeat (first | apply Kd.R_alloc | apply Kd.R_drewN | apply Kd.R_drew)); exact Kd.R_mono (Kd.R_far (p := ⟨gb132, 3, none⟩) (Kd.R_far (p := ⟨gb132, 2, none⟩) (Kd.R_far (p := ⟨gb132, 1, none⟩) (Kd.R_far (p := ⟨gb132, 0, none⟩) (Kd.R_types HO128.out BK132.out (by decide)) (fun _ hk => hk.2) (.int .u8 t122)) (fun _ hk => hk.2) (.slice Ao23 t123.length co23)) (fun _ hk => hk.2) (.slice Ao24 t126.length co24)) (fun _ hk => hk.2) (.int .i64 t129)) (fun _ hk => hk.1.2)⟩
           have n5_ : Aside0 (((((w20.setCell ⟨gb132, 0, none⟩ (.int .u8 t122)).setCell ⟨gb132, 1, none⟩ (.slice Ao23 t123.length co23)).setCell ⟨gb132, 2, none⟩ (.slice Ao24 t126.length co24)).setCell ⟨gb132, 3, none⟩ (.int .i64 t129)).heap[gb117]? = some (.cells #[.int .u8 t107, .slice Ao14 t108.length co14, .slice Ao15 t111.length co15, .int .i64 t114] 25 (0, 0))) := ⟨by (with_reducible repeat (first | refine blk_drewN ?_ _ | refine blk_drew ?_ | refine blk_alloc ?_ _)); refine blk_far ?_ NB117_132.out _; (with_reducible repeat (first | refine blk_drewN ?_ _ | refine blk_drew ?_ | refine blk_alloc ?_ _)); refine blk_far ?_ NB117_132.out _; (with_reducible repeat (first | refine blk_drewN ?_ _ | refine blk_drew ?_ | refine blk_alloc ?_ _)); refine blk_far ?_ NB117_132.out _; (with_reducible repeat (first | refine blk_drewN ?_ _ | refine blk_drew ?_ | refine blk_alloc ?_ _)); refine blk_far ?_ NB117_132.out _; (with_reducible repeat (first | refine blk_drewN ?_ _ | refine blk_drew ?_ | refine blk_alloc ?_ _)); exact BK117.out⟩
           have n6_ : Aside0 (((((w20.setCell ⟨gb132, 0, none⟩ (.int .u8 t122)).setCell ⟨gb132, 1, none⟩ (.slice Ao23 t123.length co23)).setCell ⟨gb132, 2, none⟩ (.slice Ao24 t126.length co24)).setCell ⟨gb132, 3, none⟩ (.int .i64 t129)).heap[gb132]? = some (.cells #[.int .u8 t122, .slice Ao23 t123.length co23, .slice Ao24 t126.length co24, .int .i64 t129] 25 (0, 0))) := ⟨by (with_reducible repeat (first | refine blk_drewN ?_ _ | refine blk_drew ?_ | refine blk_alloc ?_ _)); refine blk_put (cs := #[.int .u8 t122, .slice Ao23 t123.length co23, .slice Ao24 t126.length co24, .int .i64 0]) ?_ 3 _ rfl; (with_reducible repeat (first | refine blk_drewN ?_ _ | refine blk_drew ?_ | refine blk_alloc ?_ _)); refine blk_put (cs := #[.int .u8 t122, .slice Ao23 t123.length co23, .slice none 0 0, .int .i64 0]) ?_ 2 _ rfl; (with_reducible repeat (first | refine blk_drewN ?_ _ | refine blk_drew ?_ | refine blk_alloc ?_ _)); refine blk_put (cs := #[.int .u8 t122, .slice none 0 0, .slice none 0 0, .int .i64 0]) ?_ 1 _ rfl; (with_reducible repeat (first | refine blk_drewN ?_ _ | refine blk_drew ?_ | refine blk_alloc ?_ _)); refine blk_put (cs := #[.int .u8 0, .slice none 0 0, .slice none 0 0, .int .i64 0]) ?_ 0 _ rfl; (with_reducible repeat (first | refine blk_drewN ?_ _ | refine blk_drew ?_ | refine blk_alloc ?_ _)); exact BK132.out⟩
           have n7_ : Aside0 (Below w.heap.size w ((((w20.setCell ⟨gb132, 0, none⟩ (.int .u8 t122)).setCell ⟨gb132, 1, none⟩ (.slice Ao23 t123.length co23)).setCell ⟨gb132, 2, none⟩ (.slice Ao24 t126.length co24)).setCell ⟨gb132, 3, none⟩ (.int .i64 t129))) := ⟨by repeat (first | (with_reducible first | exact HB.out | apply below_alloc | apply pw_below_drewN | apply below_drew1 | refine below_set ?_ GE117.out | refine below_set ?_ GE132.out) | exact HB.out)⟩
           (try clear HO106)
           (try clear HO110)
           (try clear HO113)
           (try clear HO125)
           (try clear HO128)
           (try clear BK117)
           (try clear BK132)
           (try clear HB)
           generalize ((((w20.setCell ⟨gb132, 0, none⟩ (.int .u8 t122)).setCell ⟨gb132, 1, none⟩ (.slice Ao23 t123.length co23)).setCell ⟨gb132, 2, none⟩ (.slice Ao24 t126.length co24)).setCell ⟨gb132, 3, none⟩ (.int .i64 t129)) = w33 at n0_ n1_ n2_ n3_ n4_ n5_ n6_ n7_ ⊢
           have HO106 := n0_
           have HO110 := n1_
           have HO113 := n2_
           have HO125 := n3_
           have HO128 := n4_
           have BK117 := n5_
           have BK132 := n6_
           have HB := n7_
           clear n0_ n1_ n2_ n3_ n4_ n5_ n6_ n7_
           have n0_ := Aside0.mk (Kd.R_drew HO106.out)
           have n1_ := Aside0.mk (Kd.R_drew HO110.out)
           have n2_ := Aside0.mk (Kd.R_drew HO113.out)
           have n3_ := Aside0.mk (Kd.R_drew HO125.out)
           have n4_ := Aside0.mk (Kd.R_drew HO128.out)
           have n5_ := Aside0.mk (blk_drew BK117.out)
           have n6_ := Aside0.mk (blk_drew BK132.out)
           have n7_ := Aside0.mk (below_drew1 HB.out)
           clear HO106
           clear HO110
           clear HO113
           clear HO125
           clear HO128
           clear BK117
           clear BK132
           clear HB
           have HO106 := n0_
           have HO110 := n1_
           have HO113 := n2_
           have HO125 := n3_
           have HO128 := n4_
           have BK117 := n5_
           have BK132 := n6_
           have HB := n7_
           clear n0_ n1_ n2_ n3_ n4_ n5_ n6_ n7_
           have p138 : 0 ≤ ((l0.length : Int) : Int) := of_decide_eq_true (by first | (with_reducible assumption) | assumption)
           have q138 : (l0.length : Int) < (y104.length : Int) := of_decide_eq_true (by first | (with_reducible assumption) | assumption)
           obtain ⟨ad138, e138, hx138_0⟩ := Kd.at_int (Kd.R_reads' HO106.out).2.2 (l0.length : Int) p138 q138
           cases e138
           (try simp only [Go.IntWalk.toNatUp] at hx138_0)
           replace p138 := eq_true p138
           replace q138 := eq_true q138
           refine start_ (n := 32) (S := fun w' => w'.cell? ⟨gb132, 0, none⟩ = some (.int .u8 t122) ∧ w'.cell? ⟨gb132, 1, none⟩ = some (.slice Ao23 t123.length co23) ∧ w'.cell? ⟨gb132, 2, none⟩ = some (.slice Ao24 t126.length co24) ∧ w'.cell? ⟨gb132, 3, none⟩ = some (.int .i64 t129) ∧ w'.cell? ⟨gb117, 0, none⟩ = some (.int .u8 t107) ∧ w'.cell? ⟨gb117, 1, none⟩ = some (.slice Ao14 t108.length co14) ∧ w'.cell? ⟨gb117, 2, none⟩ = some (.slice Ao15 t111.length co15) ∧ w'.cell? ⟨gb117, 3, none⟩ = some (.int .i64 t114) ∧ Sem.run Try.prog (convert 27 9 (.slice A0 l0.length c0)) w' = .ok (.string (strOfNums l0)) w' ∧ w'.cell? (ad138.add l0.length) = some (.int .u8 (rd y104 (l0.length : Int)))) (ds := []) #[false, false, false, false, false, false, false, false, false, false, false, false, false, false, false, false, false, false, false, false, false, false, false, false, false, false, false, false, false, false, false, false] (by kernel_rfl) rfl rfl ⟨(blk_cell BK132.out 0).trans rfl, (blk_cell BK132.out 1).trans rfl, (blk_cell BK132.out 2).trans rfl, (blk_cell BK132.out 3).trans rfl, (blk_cell BK117.out 0).trans rfl, (blk_cell BK117.out 1).trans rfl, (blk_cell BK117.out 2).trans rfl, (blk_cell BK117.out 3).trans rfl, (Kd.C_string (P := Try.prog) (A := A0) (c := c0) Try.underlying27 Try.underlying5 Try.underlying9 (Kd.C_below HR0.out HB.out)), hx138_0⟩ (fun hHeld => ?_); refine with_tabW vouchlaw21_CodeReads.tab6 vouchlaw21_CodeReads.bits6 (fun HT_ HW_ => ?_)
           generalize w33.drew = w34 at HO106 HO110 HO113 HO125 HO128 BK117 BK132 HB hx138_0 hHeld ⊢
           refine tk 0 (some 35) hHeld ?_; refine tk 1 (some 36) hHeld ?_
           refine on_ 2 (some 37) (fun K hK => ?_)
           refine goes_ Try.func12 (by kernel_rfl) rfl #[.agg #[.int .u8 t122, .slice Ao23 t123.length co23, .slice Ao24 t126.length co24, .int .i64 t129], .agg #[.int .u8 t107, .slice Ao14 t108.length co14, .slice Ao15 t111.length co15, .int .i64 t114]] (by rfl) rfl rfl (by (try simp only [List.map_toArray, List.map_cons, List.map_nil]); first | done | rfl | (simp only [List.length_drop, List.length_take]; rfl)) ?_
           with_reducible refine (vouchkit_SameProgram.calls k t122 _ _ t123 _ _ t126 t129 t107 _ _ t108 _ _ t111 t114 true _ ?side1 ?side2 ?side3 ?side4 ?side5 ?side6 ?side7 ?side8 A25.out).mono ?_
           (case side1 => repeat (first | exact (Kd.R_reads' HO125.out).2.2 | (with_reducible refine Kd.C_alloc ?_ _) | (with_reducible refine Kd.C_drewN ?_ _) | (with_reducible refine Kd.C_drew ?_)))
           (case side2 => exact (Kd.R_reads' HO125.out).2.1)
           (case side3 => repeat (first | exact (Kd.R_reads' HO128.out).2.2 | (with_reducible refine Kd.C_alloc ?_ _) | (with_reducible refine Kd.C_drewN ?_ _) | (with_reducible refine Kd.C_drew ?_)))
           (case side4 => exact (Kd.R_reads' HO128.out).2.1)
           (case side5 => repeat (first | exact (Kd.R_reads' HO110.out).2.2 | (with_reducible refine Kd.C_alloc ?_ _) | (with_reducible refine Kd.C_drewN ?_ _) | (with_reducible refine Kd.C_drew ?_)))
           (case side6 => exact (Kd.R_reads' HO110.out).2.1)
           (case side7 => repeat (first | exact (Kd.R_reads' HO113.out).2.2 | (with_reducible refine Kd.C_alloc ?_ _) | (with_reducible refine Kd.C_drewN ?_ _) | (with_reducible refine Kd.C_drew ?_)))
           (case side8 => exact (Kd.R_reads' HO113.out).2.1)
           rintro e w35 ⟨rfl, hb⟩
           have HS9_ := (hb.cell (World.block_lt_of_cell? _ _ (hHeld.2.2.2.2.2.2.2.2.2))).trans (hHeld.2.2.2.2.2.2.2.2.2)
           refine ⟨_, rfl, ?_⟩
           have n0_ := Aside0.mk (Kd.R_below (kr HO106) hb)
           have n1_ := Aside0.mk (Kd.R_below (kr HO110) hb)
           have n2_ := Aside0.mk (Kd.R_below (kr HO113) hb)
           have n3_ := Aside0.mk (Kd.R_below (kr HO125) hb)
           have n4_ := Aside0.mk (Kd.R_below (kr HO128) hb)
           have n5_ := Aside0.mk (blk_below (g := gb117) (o := .cells #[.int .u8 t107, .slice Ao14 t108.length co14, .slice Ao15 t111.length co15, .int .i64 t114] 25 (0, 0)) (bk BK117) hb)
           have n6_ := Aside0.mk (blk_below (g := gb132) (o := .cells #[.int .u8 t122, .slice Ao23 t123.length co23, .slice Ao24 t126.length co24, .int .i64 t129] 25 (0, 0)) (bk BK132) hb)
           have n7_ := Aside0.mk (below_step (bl2 HB GE117 GE132) hb)
           clear HO106
           clear HO110
           clear HO113
           clear HO125
           clear HO128
           clear BK117
           clear BK132
           clear HB
           have HO106 := n0_
           have HO110 := n1_
           have HO113 := n2_
           have HO125 := n3_
           have HO128 := n4_
           have BK117 := n5_
           have BK132 := n6_
           have HB := n7_
           clear n0_ n1_ n2_ n3_ n4_ n5_ n6_ n7_
           (try clear hb)
           (try clear hb2)
           (try clear hk)
           (try clear hi)
           have q36 : ((l0.length : Int) : Int) ≤ ((y104.length : Int) : Int) := of_decide_eq_true (by first | (with_reducible assumption) | assumption)
           obtain ⟨i036, hi036, _, hsz36, _⟩ := info_parts info5
           have hroom36 : y104.length ≤ co18 := (Kd.R_reads' HO106.out).2.1
           have hC36 : Kd.C (Kd.int .u8) _ (some ad138) y104.length y104 := (Kd.R_reads' HO106.out).2.2
           (try clear hcut17)
           have hcut36 := cut_to (P := Try.prog) 27 5 .i64 Try.underlying27 hi036 (some ad138) y104.length co18 (l0.length : Int) (of_decide_eq_true (by first | (with_reducible assumption) | assumption)) q36 hroom36
           have hr36 := Kd.C_take (m := ((l0.length : Int) : Int).toNat) hC36 (by omega)
           have hy36 : y134.length = ((l0.length : Int) : Int).toNat := (by rw [Ny134.out, List.length_take]; omega)
           rw [← Ny134.out] at hr36
           rw [← hy36] at hcut36
           have HR137 := Aside0.mk hr36
           have HC137 := Aside0.mk (show y134.length ≤ co18 from by omega)
           clear hr36 hC36 hroom36 hi036 hsz36
           have KY36 := Aside0.mk hy36
           clear hy36
           have KL36 := Aside0.mk (show ((l0.length : Int) : Int).toNat ≤ y104.length from by omega)
           replace q36 := eq_true q36
           refine hK.out _ _ ⟨(blk_cell BK132.out 0).trans rfl, (blk_cell BK132.out 1).trans rfl, (blk_cell BK132.out 2).trans rfl, (blk_cell BK132.out 3).trans rfl, (blk_cell BK117.out 0).trans rfl, (blk_cell BK117.out 1).trans rfl, (blk_cell BK117.out 2).trans rfl, (blk_cell BK117.out 3).trans rfl, (Kd.C_string (P := Try.prog) (A := A0) (c := c0) Try.underlying27 Try.underlying5 Try.underlying9 (Kd.C_below HR0.out HB.out)), HS9_⟩ (fun hHeld => ?_)
           clear hK K
           refine norm_ (a' := ?_) ?_ ?_
           rotate_left
           ·show Act.put _ (some 37) _ = _
            simp only [Act.put, List.setIfInBounds_toArray, List.set_cons_zero, List.set_cons_succ, i64_w, i32_w]
            rfl
           refine pu 3 (some 38) ?_; refine pu 4 (some 39) ?_; refine pu 5 (some 40) ?_; refine pu 6 (some 41) ?_; refine pu 7 (some 42) ?_; refine pu 8 (some 43) ?_; refine pu 9 (some 44) ?_; refine pu 10 (some 45) ?_; refine pu 11 (some 46) ?_; refine pu 12 (some 47) ?_; refine pu 13 (some 48) ?_; refine pu 14 (some 49) ?_; refine pu 15 (some 50) ?_; refine pu 16 (some 51) ?_; refine pu 17 (some 52) ?_; refine pu 18 (some 53) ?_; refine pu 20 (some 55) ?_; refine tk 21 (some 56) hHeld ?_
           refine on_ 19 (some 54) (fun K hK => ?_)
           have hcv37 := Kd.C_string (P := Try.prog) (A := (some ad138)) (c := co18) Try.underlying27 Try.underlying5 Try.underlying9 (by repeat (first | (with_reducible exact HR137.out) | (with_reducible refine Kd.C_alloc ?_ _) | (with_reducible refine Kd.C_drewN ?_ _) | (with_reducible refine Kd.C_drew ?_) | exact HR137.out))
           refine value_ (w1 := ?_) (v := ?_) (by rfl) rfl ?_ ?_
           rotate_left 2
           ·go_simp
            constructor
            ·rfl
            ·rfl
           clear hcv37
           refine hK.out _ _ ⟨hHeld.1, hHeld.2.1, hHeld.2.2.1, hHeld.2.2.2.1, hHeld.2.2.2.2.1, hHeld.2.2.2.2.2.1, hHeld.2.2.2.2.2.2.1, hHeld.2.2.2.2.2.2.2.1, hHeld.2.2.2.2.2.2.2.2.1, hHeld.2.2.2.2.2.2.2.2.2⟩ (fun hHeld => ?_)
           clear hK K
           refine norm_ (a' := ?_) ?_ ?_
           rotate_left
           ·show Act.put _ (some 54) _ = _
            simp only [Act.put, List.setIfInBounds_toArray, List.set_cons_zero, List.set_cons_succ, i64_w, i32_w]
            rfl
           refine pu 22 (some 57) ?_; refine pu 23 (some 58) ?_; refine pu 24 (some 59) ?_; refine pu 25 (some 60) ?_; refine pu 26 (some 61) ?_; refine pu 27 (some 62) ?_; refine pu 28 (some 63) ?_; refine tk 29 (some 64) hHeld ?_; refine pu 30 (some 65) ?_; refine pu 31 (some 66) ?_
           refine done_ (done_of HT_.out (by kernel_rfl)) ?_
           try go_wp2
           go_meet
           case rel => exact ⟨_, (((rd y104 (l0.length : Int)) != 77)), (by first | rfl | (simp; done) | (simp [*]; done)), H', ⟨by first | omega | exact Nat.le_refl _⟩, ⟨by (with_reducible repeat (first | apply Kd.R_alloc | apply Kd.R_drewN | apply Kd.R_drew)); exact HO106.out⟩, ⟨by (with_reducible repeat (first | apply Kd.R_alloc | apply Kd.R_drewN | apply Kd.R_drew)); exact HO110.out⟩, ⟨by (with_reducible repeat (first | apply Kd.R_alloc | apply Kd.R_drewN | apply Kd.R_drew)); exact HO113.out⟩, ⟨by (with_reducible repeat (first | apply Kd.R_alloc | apply Kd.R_drewN | apply Kd.R_drew)); exact HO125.out⟩, ⟨by (with_reducible repeat (first | apply Kd.R_alloc | apply Kd.R_drewN | apply Kd.R_drew)); exact HO128.out⟩, ⟨by (with_reducible repeat (first | refine blk_drewN ?_ _ | refine blk_drew ?_ | refine blk_alloc ?_ _)); exact BK117.out⟩, ⟨by (with_reducible repeat (first | refine blk_drewN ?_ _ | refine blk_drew ?_ | refine blk_alloc ?_ _)); exact BK132.out⟩, ⟨by repeat (first | (with_reducible first | exact HB.out | apply below_alloc | apply pw_below_drewN | apply below_drew1 | refine below_set ?_ GE117.out | refine below_set ?_ GE132.out) | exact HB.out)⟩⟩
          ·rw [if_neg c32] at H
           exact absurd H (by simp)
         ·rw [if_neg c31] at H
          have c31b0 : ((strOfNums y134).toList == (strOfNums l0).toList) = false := beq_eq_false_iff_ne.mpr c31
          have c31b1 : ((strOfNums y134).toList != (strOfNums l0).toList) = true := bne_iff_ne.mpr c31
          have H' := Aside0.mk H
          clear H
          try go_wp2
          have n0_ : Aside0 (Kd.R (Kd.int .u8) 5 ((((w20.setCell ⟨gb132, 0, none⟩ (.int .u8 t122)).setCell ⟨gb132, 1, none⟩ (.slice Ao23 t123.length co23)).setCell ⟨gb132, 2, none⟩ (.slice Ao24 t126.length co24)).setCell ⟨gb132, 3, none⟩ (.int .i64 t129)) w.heap.size (fun _ => True) (.slice Ao18 y104.length co18) y104) := ⟨by (with_reducible repeat (first | apply Kd.R_alloc | apply Kd.R_drewN | apply Kd.R_drew)); exact Kd.R_mono (Kd.R_far (p := ⟨gb132, 3, none⟩) (Kd.R_far (p := ⟨gb132, 2, none⟩) (Kd.R_far (p := ⟨gb132, 1, none⟩) (Kd.R_far (p := ⟨gb132, 0, none⟩) (Kd.R_types HO106.out BK132.out (by decide)) (fun _ hk => hk.2) (.int .u8 t122)) (fun _ hk => hk.2) (.slice Ao23 t123.length co23)) (fun _ hk => hk.2) (.slice Ao24 t126.length co24)) (fun _ hk => hk.2) (.int .i64 t129)) (fun _ hk => trivial)⟩
          have n1_ : Aside0 (Kd.R Kd.string 9 ((((w20.setCell ⟨gb132, 0, none⟩ (.int .u8 t122)).setCell ⟨gb132, 1, none⟩ (.slice Ao23 t123.length co23)).setCell ⟨gb132, 2, none⟩ (.slice Ao24 t126.length co24)).setCell ⟨gb132, 3, none⟩ (.int .i64 t129)) w.heap.size (fun k_ => some k_ ≠ (.slice Ao23 t123.length co23 : Value).ownBlock) (.slice Ao14 t108.length co14) t108) := ⟨by (with_reducible repeat (first | apply Kd.R_alloc | apply Kd.R_drewN | apply Kd.R_drew)); exact Kd.R_mono (Kd.R_far (p := ⟨gb132, 3, none⟩) (Kd.R_far (p := ⟨gb132, 2, none⟩) (Kd.R_far (p := ⟨gb132, 1, none⟩) (Kd.R_far (p := ⟨gb132, 0, none⟩) (Kd.R_types HO110.out BK132.out (by decide)) (fun _ hk => hk.2) (.int .u8 t122)) (fun _ hk => hk.2) (.slice Ao23 t123.length co23)) (fun _ hk => hk.2) (.slice Ao24 t126.length co24)) (fun _ hk => hk.2) (.int .i64 t129)) (fun _ hk => hk.1.2)⟩
          have n2_ : Aside0 (Kd.R k41 41 ((((w20.setCell ⟨gb132, 0, none⟩ (.int .u8 t122)).setCell ⟨gb132, 1, none⟩ (.slice Ao23 t123.length co23)).setCell ⟨gb132, 2, none⟩ (.slice Ao24 t126.length co24)).setCell ⟨gb132, 3, none⟩ (.int .i64 t129)) w.heap.size (fun k_ => some k_ ≠ (.slice Ao24 t126.length co24 : Value).ownBlock) (.slice Ao15 t111.length co15) t111) := ⟨by (with_reducible repeat (first | apply Kd.R_alloc | apply Kd.R_drewN | apply Kd.R_drew)); exact Kd.R_mono (Kd.R_far (p := ⟨gb132, 3, none⟩) (Kd.R_far (p := ⟨gb132, 2, none⟩) (Kd.R_far (p := ⟨gb132, 1, none⟩) (Kd.R_far (p := ⟨gb132, 0, none⟩) (Kd.R_types HO113.out BK132.out (by decide)) (fun _ hk => hk.2) (.int .u8 t122)) (fun _ hk => hk.2) (.slice Ao23 t123.length co23)) (fun _ hk => hk.2) (.slice Ao24 t126.length co24)) (fun _ hk => hk.2) (.int .i64 t129)) (fun _ hk => hk.1.2)⟩
          have n3_ : Aside0 (Kd.R Kd.string 9 ((((w20.setCell ⟨gb132, 0, none⟩ (.int .u8 t122)).setCell ⟨gb132, 1, none⟩ (.slice Ao23 t123.length co23)).setCell ⟨gb132, 2, none⟩ (.slice Ao24 t126.length co24)).setCell ⟨gb132, 3, none⟩ (.int .i64 t129)) w.heap.size (fun k_ => some k_ ≠ (.slice Ao14 t108.length co14 : Value).ownBlock) (.slice Ao23 t123.length co23) t123) := ⟨by (with_reducible repeat (first | apply Kd.R_alloc | apply Kd.R_drewN | apply Kd.R_drew)); exact Kd.R_mono (Kd.R_far (p := ⟨gb132, 3, none⟩) (Kd.R_far (p := ⟨gb132, 2, none⟩) (Kd.R_far (p := ⟨gb132, 1, none⟩) (Kd.R_far (p := ⟨gb132, 0, none⟩) (Kd.R_types HO125.out BK132.out (by decide)) (fun _ hk => hk.2) (.int .u8 t122)) (fun _ hk => hk.2) (.slice Ao23 t123.length co23)) (fun _ hk => hk.2) (.slice Ao24 t126.length co24)) (fun _ hk => hk.2) (.int .i64 t129)) (fun _ hk => hk.1.2)⟩
          have n4_ : Aside0 (Kd.R k41 41 ((((w20.setCell ⟨gb132, 0, none⟩ (.int .u8 t122)).setCell ⟨gb132, 1, none⟩ (.slice Ao23 t123.length co23)).setCell ⟨gb132, 2, none⟩ (.slice Ao24 t126.length co24)).setCell ⟨gb132, 3, none⟩ (.int .i64 t129)) w.heap.size (fun k_ => some k_ ≠ (.slice Ao15 t111.length co15 : Value).ownBlock) (.slice Ao24 t126.length co24) t126) := ⟨by (with_reducible repeat (first | apply Kd.R_alloc | apply Kd.R_drewN | apply Kd.R_drew)); exact Kd.R_mono (Kd.R_far (p := ⟨gb132, 3, none⟩) (Kd.R_far (p := ⟨gb132, 2, none⟩) (Kd.R_far (p := ⟨gb132, 1, none⟩) (Kd.R_far (p := ⟨gb132, 0, none⟩) (Kd.R_types HO128.out BK132.out (by decide)) (fun _ hk => hk.2) (.int .u8 t122)) (fun _ hk => hk.2) (.slice Ao23 t123.length co23)) (fun _ hk => hk.2) (.slice Ao24 t126.length co24)) (fun _ hk => hk.2) (.int .i64 t129)) (fun _ hk => hk.1.2)⟩
          have n5_ : Aside0 (((((w20.setCell ⟨gb132, 0, none⟩ (.int .u8 t122)).setCell ⟨gb132, 1, none⟩ (.slice Ao23 t123.length co23)).setCell ⟨gb132, 2, none⟩ (.slice Ao24 t126.length co24)).setCell ⟨gb132, 3, none⟩ (.int .i64 t129)).heap[gb117]? = some (.cells #[.int .u8 t107, .slice Ao14 t108.length co14, .slice Ao15 t111.length co15, .int .i64 t114] 25 (0, 0))) := ⟨by (with_reducible repeat (first | refine blk_drewN ?_ _ | refine blk_drew ?_ | refine blk_alloc ?_ _)); refine blk_far ?_ NB117_132.out _; (with_reducible repeat (first | refine blk_drewN ?_ _ | refine blk_drew ?_ | refine blk_alloc ?_ _)); refine blk_far ?_ NB117_132.out _; (with_reducible repeat (first | refine blk_drewN ?_ _ | refine blk_drew ?_ | refine blk_alloc ?_ _)); refine blk_far ?_ NB117_132.out _; (with_reducible repeat (first | refine blk_drewN ?_ _ | refine blk_drew ?_ | refine blk_alloc ?_ _)); refine blk_far ?_ NB117_132.out _; (with_reducible repeat (first | refine blk_drewN ?_ _ | refine blk_drew ?_ | refine blk_alloc ?_ _)); exact BK117.out⟩
          have n6_ : Aside0 (((((w20.setCell ⟨gb132, 0, none⟩ (.int .u8 t122)).setCell ⟨gb132, 1, none⟩ (.slice Ao23 t123.length co23)).setCell ⟨gb132, 2, none⟩ (.slice Ao24 t126.length co24)).setCell ⟨gb132, 3, none⟩ (.int .i64 t129)).heap[gb132]? = some (.cells #[.int .u8 t122, .slice Ao23 t123.length co23, .slice Ao24 t126.length co24, .int .i64 t129] 25 (0, 0))) := ⟨by (with_reducible repeat (first | refine blk_drewN ?_ _ | refine blk_drew ?_ | refine blk_alloc ?_ _)); refine blk_put (cs := #[.int .u8 t122, .slice Ao23 t123.length co23, .slice Ao24 t126.length co24, .int .i64 0]) ?_ 3 _ rfl; (with_reducible repeat (first | refine blk_drewN ?_ _ | refine blk_drew ?_ | refine blk_alloc ?_ _)); refine blk_put (cs := #[.int .u8 t122, .slice Ao23 t123.length co23, .slice none 0 0, .int .i64 0]) ?_ 2 _ rfl; (with_reducible repeat (first | refine blk_drewN ?_ _ | refine blk_drew ?_ | refine blk_alloc ?_ _)); refine blk_put (cs := #[.int .u8 t122, .slice none 0 0, .slice none 0 0, .int .i64 0]) ?_ 1 _ rfl; (with_reducible repeat (first | refine blk_drewN ?_ _ | refine blk_drew ?_ | refine blk_alloc ?_ _)); refine blk_put (cs := #[.int .u8 0, .slice none 0 0, .slice none 0 0, .int .i64 0]) ?_ 0 _ rfl; (with_reducible repeat (first | refine blk_drewN ?_ _ | refine blk_drew ?_ | refine blk_alloc ?_ _)); exact BK132.out⟩
          have n7_ : Aside0 (Below w.heap.size w ((((w20.setCell ⟨gb132, 0, none⟩ (.int .u8 t122)).setCell ⟨gb132, 1, none⟩ (.slice Ao23 t123.length co23)).setCell ⟨gb132, 2, none⟩ (.slice Ao24 t126.length co24)).setCell ⟨gb132, 3, none⟩ (.int .i64 t129))) := ⟨by repeat (first | (with_reducible first | exact HB.out | apply below_alloc | apply pw_below_drewN | apply below_drew1 | refine below_set ?_ GE117.out | refine below_set ?_ GE132.out) | exact HB.out)⟩
          (try clear HO106)
          (try clear HO110)
          (try clear HO113)
          (try clear HO125)
          (try clear HO128)
          (try clear BK117)
          (try clear BK132)
          (try clear HB)
          generalize ((((w20.setCell ⟨gb132, 0, none⟩ (.int .u8 t122)).setCell ⟨gb132, 1, none⟩ (.slice Ao23 t123.length co23)).setCell ⟨gb132, 2, none⟩ (.slice Ao24 t126.length co24)).setCell ⟨gb132, 3, none⟩ (.int .i64 t129)) = w39 at n0_ n1_ n2_ n3_ n4_ n5_ n6_ n7_ ⊢
          have HO106 := n0_
          have HO110 := n1_
          have HO113 := n2_
          have HO125 := n3_
          have HO128 := n4_
          have BK117 := n5_
          have BK132 := n6_
          have HB := n7_
          clear n0_ n1_ n2_ n3_ n4_ n5_ n6_ n7_
          have n0_ := Aside0.mk (Kd.R_drew HO106.out)
          have n1_ := Aside0.mk (Kd.R_drew HO110.out)
          have n2_ := Aside0.mk (Kd.R_drew HO113.out)
          have n3_ := Aside0.mk (Kd.R_drew HO125.out)
          have n4_ := Aside0.mk (Kd.R_drew HO128.out)
          have n5_ := Aside0.mk (blk_drew BK117.out)
          have n6_ := Aside0.mk (blk_drew BK132.out)
          have n7_ := Aside0.mk (below_drew1 HB.out)
          clear HO106
          clear HO110
          clear HO113
          clear HO125
          clear HO128
          clear BK117
          clear BK132
          clear HB
          have HO106 := n0_
          have HO110 := n1_
          have HO113 := n2_
          have HO125 := n3_
          have HO128 := n4_
          have BK117 := n5_
          have BK132 := n6_
          have HB := n7_
          clear n0_ n1_ n2_ n3_ n4_ n5_ n6_ n7_
          refine start_ (n := 32) (S := fun w' => w'.cell? ⟨gb132, 0, none⟩ = some (.int .u8 t122) ∧ w'.cell? ⟨gb132, 1, none⟩ = some (.slice Ao23 t123.length co23) ∧ w'.cell? ⟨gb132, 2, none⟩ = some (.slice Ao24 t126.length co24) ∧ w'.cell? ⟨gb132, 3, none⟩ = some (.int .i64 t129) ∧ w'.cell? ⟨gb117, 0, none⟩ = some (.int .u8 t107) ∧ w'.cell? ⟨gb117, 1, none⟩ = some (.slice Ao14 t108.length co14) ∧ w'.cell? ⟨gb117, 2, none⟩ = some (.slice Ao15 t111.length co15) ∧ w'.cell? ⟨gb117, 3, none⟩ = some (.int .i64 t114) ∧ Sem.run Try.prog (convert 27 9 (.slice A0 l0.length c0)) w' = .ok (.string (strOfNums l0)) w') (ds := []) #[false, false, false, false, false, false, false, false, false, false, false, false, false, false, false, false, false, false, false, false, false, false, false, false, false, false, false, false, false, false, false, false] (by kernel_rfl) rfl rfl ⟨(blk_cell BK132.out 0).trans rfl, (blk_cell BK132.out 1).trans rfl, (blk_cell BK132.out 2).trans rfl, (blk_cell BK132.out 3).trans rfl, (blk_cell BK117.out 0).trans rfl, (blk_cell BK117.out 1).trans rfl, (blk_cell BK117.out 2).trans rfl, (blk_cell BK117.out 3).trans rfl, (Kd.C_string (P := Try.prog) (A := A0) (c := c0) Try.underlying27 Try.underlying5 Try.underlying9 (Kd.C_below HR0.out HB.out))⟩ (fun hHeld => ?_); refine with_tabW vouchlaw21_CodeReads.tab6 vouchlaw21_CodeReads.bits6 (fun HT_ HW_ => ?_)
          generalize w39.drew = w40 at HO106 HO110 HO113 HO125 HO128 BK117 BK132 HB hHeld ⊢
          refine tk 0 (some 35) hHeld ?_; refine tk 1 (some 36) hHeld ?_
          refine on_ 2 (some 37) (fun K hK => ?_)
          refine goes_ Try.func12 (by kernel_rfl) rfl #[.agg #[.int .u8 t122, .slice Ao23 t123.length co23, .slice Ao24 t126.length co24, .int .i64 t129], .agg #[.int .u8 t107, .slice Ao14 t108.length co14, .slice Ao15 t111.length co15, .int .i64 t114]] (by rfl) rfl rfl (by (try simp only [List.map_toArray, List.map_cons, List.map_nil]); first | done | rfl | (simp only [List.length_drop, List.length_take]; rfl)) ?_
          with_reducible refine (vouchkit_SameProgram.calls k t122 _ _ t123 _ _ t126 t129 t107 _ _ t108 _ _ t111 t114 true _ ?side1 ?side2 ?side3 ?side4 ?side5 ?side6 ?side7 ?side8 A25.out).mono ?_
          (case side1 => repeat (first | exact (Kd.R_reads' HO125.out).2.2 | (with_reducible refine Kd.C_alloc ?_ _) | (with_reducible refine Kd.C_drewN ?_ _) | (with_reducible refine Kd.C_drew ?_)))
          (case side2 => exact (Kd.R_reads' HO125.out).2.1)
          (case side3 => repeat (first | exact (Kd.R_reads' HO128.out).2.2 | (with_reducible refine Kd.C_alloc ?_ _) | (with_reducible refine Kd.C_drewN ?_ _) | (with_reducible refine Kd.C_drew ?_)))
          (case side4 => exact (Kd.R_reads' HO128.out).2.1)
          (case side5 => repeat (first | exact (Kd.R_reads' HO110.out).2.2 | (with_reducible refine Kd.C_alloc ?_ _) | (with_reducible refine Kd.C_drewN ?_ _) | (with_reducible refine Kd.C_drew ?_)))
          (case side6 => exact (Kd.R_reads' HO110.out).2.1)
          (case side7 => repeat (first | exact (Kd.R_reads' HO113.out).2.2 | (with_reducible refine Kd.C_alloc ?_ _) | (with_reducible refine Kd.C_drewN ?_ _) | (with_reducible refine Kd.C_drew ?_)))
          (case side8 => exact (Kd.R_reads' HO113.out).2.1)
          rintro e w41 ⟨rfl, hb⟩
          refine ⟨_, rfl, ?_⟩
          have n0_ := Aside0.mk (Kd.R_below (kr HO106) hb)
          have n1_ := Aside0.mk (Kd.R_below (kr HO110) hb)
          have n2_ := Aside0.mk (Kd.R_below (kr HO113) hb)
          have n3_ := Aside0.mk (Kd.R_below (kr HO125) hb)
          have n4_ := Aside0.mk (Kd.R_below (kr HO128) hb)
          have n5_ := Aside0.mk (blk_below (g := gb117) (o := .cells #[.int .u8 t107, .slice Ao14 t108.length co14, .slice Ao15 t111.length co15, .int .i64 t114] 25 (0, 0)) (bk BK117) hb)
          have n6_ := Aside0.mk (blk_below (g := gb132) (o := .cells #[.int .u8 t122, .slice Ao23 t123.length co23, .slice Ao24 t126.length co24, .int .i64 t129] 25 (0, 0)) (bk BK132) hb)
          have n7_ := Aside0.mk (below_step (bl2 HB GE117 GE132) hb)
          clear HO106
          clear HO110
          clear HO113
          clear HO125
          clear HO128
          clear BK117
          clear BK132
          clear HB
          have HO106 := n0_
          have HO110 := n1_
          have HO113 := n2_
          have HO125 := n3_
          have HO128 := n4_
          have BK117 := n5_
          have BK132 := n6_
          have HB := n7_
          clear n0_ n1_ n2_ n3_ n4_ n5_ n6_ n7_
          (try clear hb)
          (try clear hb2)
          (try clear hk)
          (try clear hi)
          have q42 : ((l0.length : Int) : Int) ≤ ((y104.length : Int) : Int) := of_decide_eq_true (by first | (with_reducible assumption) | assumption)
          obtain ⟨i042, hi042, _, hsz42, _⟩ := info_parts info5
          have hroom42 : y104.length ≤ co18 := (Kd.R_reads' HO106.out).2.1
          have hC42 : Kd.C (Kd.int .u8) _ Ao18 y104.length y104 := (Kd.R_reads' HO106.out).2.2
          (try clear hcut17); (try clear hcut36)
          have hcut42 := cut_to (P := Try.prog) 27 5 .i64 Try.underlying27 hi042 Ao18 y104.length co18 (l0.length : Int) (of_decide_eq_true (by first | (with_reducible assumption) | assumption)) q42 hroom42
          have hr42 := Kd.C_take (m := ((l0.length : Int) : Int).toNat) hC42 (by omega)
          have hy42 : y134.length = ((l0.length : Int) : Int).toNat := (by rw [Ny134.out, List.length_take]; omega)
          rw [← Ny134.out] at hr42
          rw [← hy42] at hcut42
          have HR137 := Aside0.mk hr42
          have HC137 := Aside0.mk (show y134.length ≤ co18 from by omega)
          clear hr42 hC42 hroom42 hi042 hsz42
          have KY42 := Aside0.mk hy42
          clear hy42
          have KL42 := Aside0.mk (show ((l0.length : Int) : Int).toNat ≤ y104.length from by omega)
          replace q42 := eq_true q42
          refine hK.out _ _ ⟨(blk_cell BK132.out 0).trans rfl, (blk_cell BK132.out 1).trans rfl, (blk_cell BK132.out 2).trans rfl, (blk_cell BK132.out 3).trans rfl, (blk_cell BK117.out 0).trans rfl, (blk_cell BK117.out 1).trans rfl, (blk_cell BK117.out 2).trans rfl, (blk_cell BK117.out 3).trans rfl, (Kd.C_string (P := Try.prog) (A := A0) (c := c0) Try.underlying27 Try.underlying5 Try.underlying9 (Kd.C_below HR0.out HB.out))⟩ (fun hHeld => ?_)
          clear hK K
          refine norm_ (a' := ?_) ?_ ?_
          rotate_left
          ·show Act.put _ (some 37) _ = _
           simp only [Act.put, List.setIfInBounds_toArray, List.set_cons_zero, List.set_cons_succ, i64_w, i32_w]
           rfl
          refine pu 3 (some 38) ?_; refine pu 4 (some 39) ?_; refine pu 5 (some 40) ?_; refine pu 6 (some 41) ?_; refine pu 7 (some 42) ?_; refine pu 8 (some 43) ?_; refine pu 9 (some 44) ?_; refine pu 10 (some 45) ?_; refine pu 11 (some 46) ?_; refine pu 12 (some 47) ?_; refine pu 13 (some 48) ?_; refine pu 14 (some 49) ?_; refine pu 15 (some 50) ?_; refine pu 16 (some 51) ?_; refine pu 17 (some 52) ?_; refine pu 18 (some 53) ?_; refine pu 20 (some 55) ?_; refine tk 21 (some 56) hHeld ?_
          refine on_ 19 (some 54) (fun K hK => ?_)
          have hcv43 := Kd.C_string (P := Try.prog) (A := Ao18) (c := co18) Try.underlying27 Try.underlying5 Try.underlying9 (by repeat (first | (with_reducible exact HR137.out) | (with_reducible refine Kd.C_alloc ?_ _) | (with_reducible refine Kd.C_drewN ?_ _) | (with_reducible refine Kd.C_drew ?_) | exact HR137.out))
          refine value_ (w1 := ?_) (v := ?_) (by rfl) rfl ?_ ?_
          rotate_left 2
          ·go_simp
           constructor
           ·rfl
           ·rfl
          clear hcv43
          refine hK.out _ _ ⟨hHeld.1, hHeld.2.1, hHeld.2.2.1, hHeld.2.2.2.1, hHeld.2.2.2.2.1, hHeld.2.2.2.2.2.1, hHeld.2.2.2.2.2.2.1, hHeld.2.2.2.2.2.2.2.1, hHeld.2.2.2.2.2.2.2.2⟩ (fun hHeld => ?_)
          clear hK K
          refine norm_ (a' := ?_) ?_ ?_
          rotate_left
          ·show Act.put _ (some 54) _ = _
           simp only [Act.put, List.setIfInBounds_toArray, List.set_cons_zero, List.set_cons_succ, i64_w, i32_w]
           rfl
          refine pu 22 (some 57) ?_; refine pu 23 (some 58) ?_; refine pu 24 (some 59) ?_; refine pz 25 (some 60) ?_; refine pz 26 (some 61) ?_; refine pz 27 (some 62) ?_; refine pz 28 (some 63) ?_; refine pz 29 (some 64) ?_; refine pz 30 (some 65) ?_; refine pu 31 (some 66) ?_
          refine done_ (done_of HT_.out (by kernel_rfl)) ?_
          try go_wp2
          go_meet
          case rel => exact ⟨_, (true), (by first | rfl | (simp; done) | (simp [*]; done)), H', ⟨by first | omega | exact Nat.le_refl _⟩, ⟨by (with_reducible repeat (first | apply Kd.R_alloc | apply Kd.R_drewN | apply Kd.R_drew)); exact HO106.out⟩, ⟨by (with_reducible repeat (first | apply Kd.R_alloc | apply Kd.R_drewN | apply Kd.R_drew)); exact HO110.out⟩, ⟨by (with_reducible repeat (first | apply Kd.R_alloc | apply Kd.R_drewN | apply Kd.R_drew)); exact HO113.out⟩, ⟨by (with_reducible repeat (first | apply Kd.R_alloc | apply Kd.R_drewN | apply Kd.R_drew)); exact HO125.out⟩, ⟨by (with_reducible repeat (first | apply Kd.R_alloc | apply Kd.R_drewN | apply Kd.R_drew)); exact HO128.out⟩, ⟨by (with_reducible repeat (first | refine blk_drewN ?_ _ | refine blk_drew ?_ | refine blk_alloc ?_ _)); exact BK117.out⟩, ⟨by (with_reducible repeat (first | refine blk_drewN ?_ _ | refine blk_drew ?_ | refine blk_alloc ?_ _)); exact BK132.out⟩, ⟨by repeat (first | (with_reducible first | exact HB.out | apply below_alloc | apply pw_below_drewN | apply below_drew1 | refine below_set ?_ GE117.out | refine below_set ?_ GE132.out) | exact HB.out)⟩⟩
        ·rw [if_neg c28] at H
         have c28b0 : (t131 == t116) = false := beq_eq_false_iff_ne.mpr c28
         have c28b1 : (t131 != t116) = true := bne_iff_ne.mpr c28
         have H' := Aside0.mk H
         clear H
         try go_wp2
         have n0_ : Aside0 (Kd.R (Kd.int .u8) 5 ((((w20.setCell ⟨gb132, 0, none⟩ (.int .u8 t122)).setCell ⟨gb132, 1, none⟩ (.slice Ao23 t123.length co23)).setCell ⟨gb132, 2, none⟩ (.slice Ao24 t126.length co24)).setCell ⟨gb132, 3, none⟩ (.int .i64 t129)) w.heap.size (fun _ => True) (.slice Ao18 y104.length co18) y104) := ⟨by (with_reducible repeat (first | apply Kd.R_alloc | apply Kd.R_drewN | apply Kd.R_drew)); exact Kd.R_mono (Kd.R_far (p := ⟨gb132, 3, none⟩) (Kd.R_far (p := ⟨gb132, 2, none⟩) (Kd.R_far (p := ⟨gb132, 1, none⟩) (Kd.R_far (p := ⟨gb132, 0, none⟩) (Kd.R_types HO106.out BK132.out (by decide)) (fun _ hk => hk.2) (.int .u8 t122)) (fun _ hk => hk.2) (.slice Ao23 t123.length co23)) (fun _ hk => hk.2) (.slice Ao24 t126.length co24)) (fun _ hk => hk.2) (.int .i64 t129)) (fun _ hk => trivial)⟩
         have n1_ : Aside0 (Kd.R Kd.string 9 ((((w20.setCell ⟨gb132, 0, none⟩ (.int .u8 t122)).setCell ⟨gb132, 1, none⟩ (.slice Ao23 t123.length co23)).setCell ⟨gb132, 2, none⟩ (.slice Ao24 t126.length co24)).setCell ⟨gb132, 3, none⟩ (.int .i64 t129)) w.heap.size (fun k_ => some k_ ≠ (.slice Ao23 t123.length co23 : Value).ownBlock) (.slice Ao14 t108.length co14) t108) := ⟨by (with_reducible repeat (first | apply Kd.R_alloc | apply Kd.R_drewN | apply Kd.R_drew)); exact Kd.R_mono (Kd.R_far (p := ⟨gb132, 3, none⟩) (Kd.R_far (p := ⟨gb132, 2, none⟩) (Kd.R_far (p := ⟨gb132, 1, none⟩) (Kd.R_far (p := ⟨gb132, 0, none⟩) (Kd.R_types HO110.out BK132.out (by decide)) (fun _ hk => hk.2) (.int .u8 t122)) (fun _ hk => hk.2) (.slice Ao23 t123.length co23)) (fun _ hk => hk.2) (.slice Ao24 t126.length co24)) (fun _ hk => hk.2) (.int .i64 t129)) (fun _ hk => hk.1.2)⟩
         have n2_ : Aside0 (Kd.R k41 41 ((((w20.setCell ⟨gb132, 0, none⟩ (.int .u8 t122)).setCell ⟨gb132, 1, none⟩ (.slice Ao23 t123.length co23)).setCell ⟨gb132, 2, none⟩ (.slice Ao24 t126.length co24)).setCell ⟨gb132, 3, none⟩ (.int .i64 t129)) w.heap.size (fun k_ => some k_ ≠ (.slice Ao24 t126.length co24 : Value).ownBlock) (.slice Ao15 t111.length co15) t111) := ⟨by (with_reducible repeat (first | apply Kd.R_alloc | apply Kd.R_drewN | apply Kd.R_drew)); exact Kd.R_mono (Kd.R_far (p := ⟨gb132, 3, none⟩) (Kd.R_far (p := ⟨gb132, 2, none⟩) (Kd.R_far (p := ⟨gb132, 1, none⟩) (Kd.R_far (p := ⟨gb132, 0, none⟩) (Kd.R_types HO113.out BK132.out (by decide)) (fun _ hk => hk.2) (.int .u8 t122)) (fun _ hk => hk.2) (.slice Ao23 t123.length co23)) (fun _ hk => hk.2) (.slice Ao24 t126.length co24)) (fun _ hk => hk.2) (.int .i64 t129)) (fun _ hk => hk.1.2)⟩
         have n3_ : Aside0 (Kd.R Kd.string 9 ((((w20.setCell ⟨gb132, 0, none⟩ (.int .u8 t122)).setCell ⟨gb132, 1, none⟩ (.slice Ao23 t123.length co23)).setCell ⟨gb132, 2, none⟩ (.slice Ao24 t126.length co24)).setCell ⟨gb132, 3, none⟩ (.int .i64 t129)) w.heap.size (fun k_ => some k_ ≠ (.slice Ao14 t108.length co14 : Value).ownBlock) (.slice Ao23 t123.length co23) t123) := ⟨by (with_reducible repeat (first | apply Kd.R_alloc | apply Kd.R_drewN | apply Kd.R_drew)); exact Kd.R_mono (Kd.R_far (p := ⟨gb132, 3, none⟩) (Kd.R_far (p := ⟨gb132, 2, none⟩) (Kd.R_far (p := ⟨gb132, 1, none⟩) (Kd.R_far (p := ⟨gb132, 0, none⟩) (Kd.R_types HO125.out BK132.out (by decide)) (fun _ hk => hk.2) (.int .u8 t122)) (fun _ hk => hk.2) (.slice Ao23 t123.length co23)) (fun _ hk => hk.2) (.slice Ao24 t126.length co24)) (fun _ hk => hk.2) (.int .i64 t129)) (fun _ hk => hk.1.2)⟩
         have n4_ : Aside0 (Kd.R k41 41 ((((w20.setCell ⟨gb132, 0, none⟩ (.int .u8 t122)).setCell ⟨gb132, 1, none⟩ (.slice Ao23 t123.length co23)).setCell ⟨gb132, 2, none⟩ (.slice Ao24 t126.length co24)).setCell ⟨gb132, 3, none⟩ (.int .i64 t129)) w.heap.size (fun k_ => some k_ ≠ (.slice Ao15 t111.length co15 : Value).ownBlock) (.slice Ao24 t126.length co24) t126) := ⟨by (with_reducible repeat (first | apply Kd.R_alloc | apply Kd.R_drewN | apply Kd.R_drew)); exact Kd.R_mono (Kd.R_far (p := ⟨gb132, 3, none⟩) (Kd.R_far (p := ⟨gb132, 2, none⟩) (Kd.R_far (p := ⟨gb132, 1, none⟩) (Kd.R_far (p := ⟨gb132, 0, none⟩) (Kd.R_types HO128.out BK132.out (by decide)) (fun _ hk => hk.2) (.int .u8 t122)) (fun _ hk => hk.2) (.slice Ao23 t123.length co23)) (fun _ hk => hk.2) (.slice Ao24 t126.length co24)) (fun _ hk => hk.2) (.int .i64 t129)) (fun _ hk => hk.1.2)⟩
         have n5_ : Aside0 (((((w20.setCell ⟨gb132, 0, none⟩ (.int .u8 t122)).setCell ⟨gb132, 1, none⟩ (.slice Ao23 t123.length co23)).setCell ⟨gb132, 2, none⟩ (.slice Ao24 t126.length co24)).setCell ⟨gb132, 3, none⟩ (.int .i64 t129)).heap[gb117]? = some (.cells #[.int .u8 t107, .slice Ao14 t108.length co14, .slice Ao15 t111.length co15, .int .i64 t114] 25 (0, 0))) := ⟨by (with_reducible repeat (first | refine blk_drewN ?_ _ | refine blk_drew ?_ | refine blk_alloc ?_ _)); refine blk_far ?_ NB117_132.out _; (with_reducible repeat (first | refine blk_drewN ?_ _ | refine blk_drew ?_ | refine blk_alloc ?_ _)); refine blk_far ?_ NB117_132.out _; (with_reducible repeat (first | refine blk_drewN ?_ _ | refine blk_drew ?_ | refine blk_alloc ?_ _)); refine blk_far ?_ NB117_132.out _; (with_reducible repeat (first | refine blk_drewN ?_ _ | refine blk_drew ?_ | refine blk_alloc ?_ _)); refine blk_far ?_ NB117_132.out _; (with_reducible repeat (first | refine blk_drewN ?_ _ | refine blk_drew ?_ | refine blk_alloc ?_ _)); exact BK117.out⟩
         have n6_ : Aside0 (((((w20.setCell ⟨gb132, 0, none⟩ (.int .u8 t122)).setCell ⟨gb132, 1, none⟩ (.slice Ao23 t123.length co23)).setCell ⟨gb132, 2, none⟩ (.slice Ao24 t126.length co24)).setCell ⟨gb132, 3, none⟩ (.int .i64 t129)).heap[gb132]? = some (.cells #[.int .u8 t122, .slice Ao23 t123.length co23, .slice Ao24 t126.length co24, .int .i64 t129] 25 (0, 0))) := ⟨by (with_reducible repeat (first | refine blk_drewN ?_ _ | refine blk_drew ?_ | refine blk_alloc ?_ _)); refine blk_put (cs := #[.int .u8 t122, .slice Ao23 t123.length co23, .slice Ao24 t126.length co24, .int .i64 0]) ?_ 3 _ rfl; (with_reducible repeat (first | refine blk_drewN ?_ _ | refine blk_drew ?_ | refine blk_alloc ?_ _)); refine blk_put (cs := #[.int .u8 t122, .slice Ao23 t123.length co23, .slice none 0 0, .int .i64 0]) ?_ 2 _ rfl; (with_reducible repeat (first | refine blk_drewN ?_ _ | refine blk_drew ?_ | refine blk_alloc ?_ _)); refine blk_put (cs := #[.int .u8 t122, .slice none 0 0, .slice none 0 0, .int .i64 0]) ?_ 1 _ rfl; (with_reducible repeat (first | refine blk_drewN ?_ _ | refine blk_drew ?_ | refine blk_alloc ?_ _)); refine blk_put (cs := #[.int .u8 0, .slice none 0 0, .slice none 0 0, .int .i64 0]) ?_ 0 _ rfl; (with_reducible repeat (first | refine blk_drewN ?_ _ | refine blk_drew ?_ | refine blk_alloc ?_ _)); exact BK132.out⟩
         have n7_ : Aside0 (Below w.heap.size w ((((w20.setCell ⟨gb132, 0, none⟩ (.int .u8 t122)).setCell ⟨gb132, 1, none⟩ (.slice Ao23 t123.length co23)).setCell ⟨gb132, 2, none⟩ (.slice Ao24 t126.length co24)).setCell ⟨gb132, 3, none⟩ (.int .i64 t129))) := ⟨by repeat (first | (with_reducible first | exact HB.out | apply below_alloc | apply pw_below_drewN | apply below_drew1 | refine below_set ?_ GE117.out | refine below_set ?_ GE132.out) | exact HB.out)⟩
         (try clear HO106)
         (try clear HO110)
         (try clear HO113)
         (try clear HO125)
         (try clear HO128)
         (try clear BK117)
         (try clear BK132)
         (try clear HB)
         generalize ((((w20.setCell ⟨gb132, 0, none⟩ (.int .u8 t122)).setCell ⟨gb132, 1, none⟩ (.slice Ao23 t123.length co23)).setCell ⟨gb132, 2, none⟩ (.slice Ao24 t126.length co24)).setCell ⟨gb132, 3, none⟩ (.int .i64 t129)) = w45 at n0_ n1_ n2_ n3_ n4_ n5_ n6_ n7_ ⊢
         have HO106 := n0_
         have HO110 := n1_
         have HO113 := n2_
         have HO125 := n3_
         have HO128 := n4_
         have BK117 := n5_
         have BK132 := n6_
         have HB := n7_
         clear n0_ n1_ n2_ n3_ n4_ n5_ n6_ n7_
         have n0_ := Aside0.mk (Kd.R_drew HO106.out)
         have n1_ := Aside0.mk (Kd.R_drew HO110.out)
         have n2_ := Aside0.mk (Kd.R_drew HO113.out)
         have n3_ := Aside0.mk (Kd.R_drew HO125.out)
         have n4_ := Aside0.mk (Kd.R_drew HO128.out)
         have n5_ := Aside0.mk (blk_drew BK117.out)
         have n6_ := Aside0.mk (blk_drew BK132.out)
         have n7_ := Aside0.mk (below_drew1 HB.out)
         clear HO106
         clear HO110
         clear HO113
         clear HO125
         clear HO128
         clear BK117
         clear BK132
         clear HB
         have HO106 := n0_
         have HO110 := n1_
         have HO113 := n2_
         have HO125 := n3_
         have HO128 := n4_
         have BK117 := n5_
         have BK132 := n6_
         have HB := n7_
         clear n0_ n1_ n2_ n3_ n4_ n5_ n6_ n7_
         refine start_ (n := 32) (S := fun w' => w'.cell? ⟨gb132, 0, none⟩ = some (.int .u8 t122) ∧ w'.cell? ⟨gb132, 1, none⟩ = some (.slice Ao23 t123.length co23) ∧ w'.cell? ⟨gb132, 2, none⟩ = some (.slice Ao24 t126.length co24) ∧ w'.cell? ⟨gb132, 3, none⟩ = some (.int .i64 t129) ∧ w'.cell? ⟨gb117, 0, none⟩ = some (.int .u8 t107) ∧ w'.cell? ⟨gb117, 1, none⟩ = some (.slice Ao14 t108.length co14) ∧ w'.cell? ⟨gb117, 2, none⟩ = some (.slice Ao15 t111.length co15) ∧ w'.cell? ⟨gb117, 3, none⟩ = some (.int .i64 t114)) (ds := []) #[false, false, false, false, false, false, false, false, false, false, false, false, false, false, false, false, false, false, false, false, false, false, false, false, false, false, false, false, false, false, false, false] (by kernel_rfl) rfl rfl ⟨(blk_cell BK132.out 0).trans rfl, (blk_cell BK132.out 1).trans rfl, (blk_cell BK132.out 2).trans rfl, (blk_cell BK132.out 3).trans rfl, (blk_cell BK117.out 0).trans rfl, (blk_cell BK117.out 1).trans rfl, (blk_cell BK117.out 2).trans rfl, (blk_cell BK117.out 3).trans rfl⟩ (fun hHeld => ?_); refine with_tabW vouchlaw21_CodeReads.tab6 vouchlaw21_CodeReads.bits6 (fun HT_ HW_ => ?_)
         generalize w45.drew = w46 at HO106 HO110 HO113 HO125 HO128 BK117 BK132 HB hHeld ⊢
         refine tk 0 (some 35) hHeld ?_; refine tk 1 (some 36) hHeld ?_
         refine on_ 2 (some 37) (fun K hK => ?_)
         refine goes_ Try.func12 (by kernel_rfl) rfl #[.agg #[.int .u8 t122, .slice Ao23 t123.length co23, .slice Ao24 t126.length co24, .int .i64 t129], .agg #[.int .u8 t107, .slice Ao14 t108.length co14, .slice Ao15 t111.length co15, .int .i64 t114]] (by rfl) rfl rfl (by (try simp only [List.map_toArray, List.map_cons, List.map_nil]); first | done | rfl | (simp only [List.length_drop, List.length_take]; rfl)) ?_
         with_reducible refine (vouchkit_SameProgram.calls k t122 _ _ t123 _ _ t126 t129 t107 _ _ t108 _ _ t111 t114 true _ ?side1 ?side2 ?side3 ?side4 ?side5 ?side6 ?side7 ?side8 A25.out).mono ?_
         (case side1 => repeat (first | exact (Kd.R_reads' HO125.out).2.2 | (with_reducible refine Kd.C_alloc ?_ _) | (with_reducible refine Kd.C_drewN ?_ _) | (with_reducible refine Kd.C_drew ?_)))
         (case side2 => exact (Kd.R_reads' HO125.out).2.1)
         (case side3 => repeat (first | exact (Kd.R_reads' HO128.out).2.2 | (with_reducible refine Kd.C_alloc ?_ _) | (with_reducible refine Kd.C_drewN ?_ _) | (with_reducible refine Kd.C_drew ?_)))
         (case side4 => exact (Kd.R_reads' HO128.out).2.1)
         (case side5 => repeat (first | exact (Kd.R_reads' HO110.out).2.2 | (with_reducible refine Kd.C_alloc ?_ _) | (with_reducible refine Kd.C_drewN ?_ _) | (with_reducible refine Kd.C_drew ?_)))
         (case side6 => exact (Kd.R_reads' HO110.out).2.1)
         (case side7 => repeat (first | exact (Kd.R_reads' HO113.out).2.2 | (with_reducible refine Kd.C_alloc ?_ _) | (with_reducible refine Kd.C_drewN ?_ _) | (with_reducible refine Kd.C_drew ?_)))
         (case side8 => exact (Kd.R_reads' HO113.out).2.1)
         rintro e w47 ⟨rfl, hb⟩
         refine ⟨_, rfl, ?_⟩
         have n0_ := Aside0.mk (Kd.R_below (kr HO106) hb)
         have n1_ := Aside0.mk (Kd.R_below (kr HO110) hb)
         have n2_ := Aside0.mk (Kd.R_below (kr HO113) hb)
         have n3_ := Aside0.mk (Kd.R_below (kr HO125) hb)
         have n4_ := Aside0.mk (Kd.R_below (kr HO128) hb)
         have n5_ := Aside0.mk (blk_below (g := gb117) (o := .cells #[.int .u8 t107, .slice Ao14 t108.length co14, .slice Ao15 t111.length co15, .int .i64 t114] 25 (0, 0)) (bk BK117) hb)
         have n6_ := Aside0.mk (blk_below (g := gb132) (o := .cells #[.int .u8 t122, .slice Ao23 t123.length co23, .slice Ao24 t126.length co24, .int .i64 t129] 25 (0, 0)) (bk BK132) hb)
         have n7_ := Aside0.mk (below_step (bl2 HB GE117 GE132) hb)
         clear HO106
         clear HO110
         clear HO113
         clear HO125
         clear HO128
         clear BK117
         clear BK132
         clear HB
         have HO106 := n0_
         have HO110 := n1_
         have HO113 := n2_
         have HO125 := n3_
         have HO128 := n4_
         have BK117 := n5_
         have BK132 := n6_
         have HB := n7_
         clear n0_ n1_ n2_ n3_ n4_ n5_ n6_ n7_
         (try clear hb)
         (try clear hb2)
         (try clear hk)
         (try clear hi)
         refine hK.out _ _ ⟨(blk_cell BK132.out 0).trans rfl, (blk_cell BK132.out 1).trans rfl, (blk_cell BK132.out 2).trans rfl, (blk_cell BK132.out 3).trans rfl, (blk_cell BK117.out 0).trans rfl, (blk_cell BK117.out 1).trans rfl, (blk_cell BK117.out 2).trans rfl, (blk_cell BK117.out 3).trans rfl⟩ (fun hHeld => ?_)
         clear hK K
         refine norm_ (a' := ?_) ?_ ?_
         rotate_left
         ·show Act.put _ (some 37) _ = _
          simp only [Act.put, List.setIfInBounds_toArray, List.set_cons_zero, List.set_cons_succ, i64_w, i32_w]
          rfl
         refine pu 3 (some 38) ?_; refine pu 4 (some 39) ?_; refine pu 5 (some 40) ?_; refine pu 6 (some 41) ?_; refine pu 7 (some 42) ?_; refine pu 8 (some 43) ?_; refine pu 9 (some 44) ?_; refine pu 10 (some 45) ?_; refine pu 11 (some 46) ?_; refine pu 12 (some 47) ?_; refine pu 13 (some 48) ?_; refine pu 14 (some 49) ?_; refine pz 15 (some 50) ?_; refine pz 16 (some 51) ?_; refine pz 17 (some 52) ?_; refine pz 18 (some 53) ?_; refine pz 19 (some 54) ?_; refine pz 20 (some 55) ?_; refine pz 21 (some 56) ?_; refine pz 22 (some 57) ?_; refine pu 23 (some 58) ?_; refine pu 24 (some 59) ?_; refine pz 25 (some 60) ?_; refine pz 26 (some 61) ?_; refine pz 27 (some 62) ?_; refine pz 28 (some 63) ?_; refine pz 29 (some 64) ?_; refine pz 30 (some 65) ?_; refine pu 31 (some 66) ?_
         refine done_ (done_of HT_.out (by kernel_rfl)) ?_
         try go_wp2
         go_meet
         case rel => exact ⟨_, (true), (by first | rfl | (simp; done) | (simp [*]; done)), H', ⟨by first | omega | exact Nat.le_refl _⟩, ⟨by (with_reducible repeat (first | apply Kd.R_alloc | apply Kd.R_drewN | apply Kd.R_drew)); exact HO106.out⟩, ⟨by (with_reducible repeat (first | apply Kd.R_alloc | apply Kd.R_drewN | apply Kd.R_drew)); exact HO110.out⟩, ⟨by (with_reducible repeat (first | apply Kd.R_alloc | apply Kd.R_drewN | apply Kd.R_drew)); exact HO113.out⟩, ⟨by (with_reducible repeat (first | apply Kd.R_alloc | apply Kd.R_drewN | apply Kd.R_drew)); exact HO125.out⟩, ⟨by (with_reducible repeat (first | apply Kd.R_alloc | apply Kd.R_drewN | apply Kd.R_drew)); exact HO128.out⟩, ⟨by (with_reducible repeat (first | refine blk_drewN ?_ _ | refine blk_drew ?_ | refine blk_alloc ?_ _)); exact BK117.out⟩, ⟨by (with_reducible repeat (first | refine blk_drewN ?_ _ | refine blk_drew ?_ | refine blk_alloc ?_ _)); exact BK132.out⟩, ⟨by repeat (first | (with_reducible first | exact HB.out | apply below_alloc | apply pw_below_drewN | apply below_drew1 | refine below_set ?_ GE117.out | refine below_set ?_ GE132.out) | exact HB.out)⟩⟩
       ·rw [if_neg c27] at H
        have c27b0 : (t130 == t115) = false := beq_eq_false_iff_ne.mpr c27
        have c27b1 : (t130 != t115) = true := bne_iff_ne.mpr c27
        (first | rw [c27b0] | (simp only [i64_w, i32_w]; rw [c27b0]) | skip)
        have H' := Aside0.mk H
        clear H
        try go_wp2
        have n0_ : Aside0 (Kd.R (Kd.int .u8) 5 ((((w20.setCell ⟨gb132, 0, none⟩ (.int .u8 t122)).setCell ⟨gb132, 1, none⟩ (.slice Ao23 t123.length co23)).setCell ⟨gb132, 2, none⟩ (.slice Ao24 t126.length co24)).setCell ⟨gb132, 3, none⟩ (.int .i64 t129)) w.heap.size (fun _ => True) (.slice Ao18 y104.length co18) y104) := ⟨by (with_reducible repeat (first | apply Kd.R_alloc | apply Kd.R_drewN | apply Kd.R_drew)); exact Kd.R_mono (Kd.R_far (p := ⟨gb132, 3, none⟩) (Kd.R_far (p := ⟨gb132, 2, none⟩) (Kd.R_far (p := ⟨gb132, 1, none⟩) (Kd.R_far (p := ⟨gb132, 0, none⟩) (Kd.R_types HO106.out BK132.out (by decide)) (fun _ hk => hk.2) (.int .u8 t122)) (fun _ hk => hk.2) (.slice Ao23 t123.length co23)) (fun _ hk => hk.2) (.slice Ao24 t126.length co24)) (fun _ hk => hk.2) (.int .i64 t129)) (fun _ hk => trivial)⟩
        have n1_ : Aside0 (Kd.R Kd.string 9 ((((w20.setCell ⟨gb132, 0, none⟩ (.int .u8 t122)).setCell ⟨gb132, 1, none⟩ (.slice Ao23 t123.length co23)).setCell ⟨gb132, 2, none⟩ (.slice Ao24 t126.length co24)).setCell ⟨gb132, 3, none⟩ (.int .i64 t129)) w.heap.size (fun k_ => some k_ ≠ (.slice Ao23 t123.length co23 : Value).ownBlock) (.slice Ao14 t108.length co14) t108) := ⟨by (with_reducible repeat (first | apply Kd.R_alloc | apply Kd.R_drewN | apply Kd.R_drew)); exact Kd.R_mono (Kd.R_far (p := ⟨gb132, 3, none⟩) (Kd.R_far (p := ⟨gb132, 2, none⟩) (Kd.R_far (p := ⟨gb132, 1, none⟩) (Kd.R_far (p := ⟨gb132, 0, none⟩) (Kd.R_types HO110.out BK132.out (by decide)) (fun _ hk => hk.2) (.int .u8 t122)) (fun _ hk => hk.2) (.slice Ao23 t123.length co23)) (fun _ hk => hk.2) (.slice Ao24 t126.length co24)) (fun _ hk => hk.2) (.int .i64 t129)) (fun _ hk => hk.1.2)⟩
        have n2_ : Aside0 (Kd.R k41 41 ((((w20.setCell ⟨gb132, 0, none⟩ (.int .u8 t122)).setCell ⟨gb132, 1, none⟩ (.slice Ao23 t123.length co23)).setCell ⟨gb132, 2, none⟩ (.slice Ao24 t126.length co24)).setCell ⟨gb132, 3, none⟩ (.int .i64 t129)) w.heap.size (fun k_ => some k_ ≠ (.slice Ao24 t126.length co24 : Value).ownBlock) (.slice Ao15 t111.length co15) t111) := ⟨by (with_reducible repeat (first | apply Kd.R_alloc | apply Kd.R_drewN | apply Kd.R_drew)); exact Kd.R_mono (Kd.R_far (p := ⟨gb132, 3, none⟩) (Kd.R_far (p := ⟨gb132, 2, none⟩) (Kd.R_far (p := ⟨gb132, 1, none⟩) (Kd.R_far (p := ⟨gb132, 0, none⟩) (Kd.R_types HO113.out BK132.out (by decide)) (fun _ hk => hk.2) (.int .u8 t122)) (fun _ hk => hk.2) (.slice Ao23 t123.length co23)) (fun _ hk => hk.2) (.slice Ao24 t126.length co24)) (fun _ hk => hk.2) (.int .i64 t129)) (fun _ hk => hk.1.2)⟩
        have n3_ : Aside0 (Kd.R Kd.string 9 ((((w20.setCell ⟨gb132, 0, none⟩ (.int .u8 t122)).setCell ⟨gb132, 1, none⟩ (.slice Ao23 t123.length co23)).setCell ⟨gb132, 2, none⟩ (.slice Ao24 t126.length co24)).setCell ⟨gb132, 3, none⟩ (.int .i64 t129)) w.heap.size (fun k_ => some k_ ≠ (.slice Ao14 t108.length co14 : Value).ownBlock) (.slice Ao23 t123.length co23) t123) := ⟨by (with_reducible repeat (first | apply Kd.R_alloc | apply Kd.R_drewN | apply Kd.R_drew)); exact Kd.R_mono (Kd.R_far (p := ⟨gb132, 3, none⟩) (Kd.R_far (p := ⟨gb132, 2, none⟩) (Kd.R_far (p := ⟨gb132, 1, none⟩) (Kd.R_far (p := ⟨gb132, 0, none⟩) (Kd.R_types HO125.out BK132.out (by decide)) (fun _ hk => hk.2) (.int .u8 t122)) (fun _ hk => hk.2) (.slice Ao23 t123.length co23)) (fun _ hk => hk.2) (.slice Ao24 t126.length co24)) (fun _ hk => hk.2) (.int .i64 t129)) (fun _ hk => hk.1.2)⟩
        have n4_ : Aside0 (Kd.R k41 41 ((((w20.setCell ⟨gb132, 0, none⟩ (.int .u8 t122)).setCell ⟨gb132, 1, none⟩ (.slice Ao23 t123.length co23)).setCell ⟨gb132, 2, none⟩ (.slice Ao24 t126.length co24)).setCell ⟨gb132, 3, none⟩ (.int .i64 t129)) w.heap.size (fun k_ => some k_ ≠ (.slice Ao15 t111.length co15 : Value).ownBlock) (.slice Ao24 t126.length co24) t126) := ⟨by (with_reducible repeat (first | apply Kd.R_alloc | apply Kd.R_drewN | apply Kd.R_drew)); exact Kd.R_mono (Kd.R_far (p := ⟨gb132, 3, none⟩) (Kd.R_far (p := ⟨gb132, 2, none⟩) (Kd.R_far (p := ⟨gb132, 1, none⟩) (Kd.R_far (p := ⟨gb132, 0, none⟩) (Kd.R_types HO128.out BK132.out (by decide)) (fun _ hk => hk.2) (.int .u8 t122)) (fun _ hk => hk.2) (.slice Ao23 t123.length co23)) (fun _ hk => hk.2) (.slice Ao24 t126.length co24)) (fun _ hk => hk.2) (.int .i64 t129)) (fun _ hk => hk.1.2)⟩
        have n5_ : Aside0 (((((w20.setCell ⟨gb132, 0, none⟩ (.int .u8 t122)).setCell ⟨gb132, 1, none⟩ (.slice Ao23 t123.length co23)).setCell ⟨gb132, 2, none⟩ (.slice Ao24 t126.length co24)).setCell ⟨gb132, 3, none⟩ (.int .i64 t129)).heap[gb117]? = some (.cells #[.int .u8 t107, .slice Ao14 t108.length co14, .slice Ao15 t111.length co15, .int .i64 t114] 25 (0, 0))) := ⟨by (with_reducible repeat (first | refine blk_drewN ?_ _ | refine blk_drew ?_ | refine blk_alloc ?_ _)); refine blk_far ?_ NB117_132.out _; (with_reducible repeat (first | refine blk_drewN ?_ _ | refine blk_drew ?_ | refine blk_alloc ?_ _)); refine blk_far ?_ NB117_132.out _; (with_reducible repeat (first | refine blk_drewN ?_ _ | refine blk_drew ?_ | refine blk_alloc ?_ _)); refine blk_far ?_ NB117_132.out _; (with_reducible repeat (first | refine blk_drewN ?_ _ | refine blk_drew ?_ | refine blk_alloc ?_ _)); refine blk_far ?_ NB117_132.out _; (with_reducible repeat (first | refine blk_drewN ?_ _ | refine blk_drew ?_ | refine blk_alloc ?_ _)); exact BK117.out⟩
        have n6_ : Aside0 (((((w20.setCell ⟨gb132, 0, none⟩ (.int .u8 t122)).setCell ⟨gb132, 1, none⟩ (.slice Ao23 t123.length co23)).setCell ⟨gb132, 2, none⟩ (.slice Ao24 t126.length co24)).setCell ⟨gb132, 3, none⟩ (.int .i64 t129)).heap[gb132]? = some (.cells #[.int .u8 t122, .slice Ao23 t123.length co23, .slice Ao24 t126.length co24, .int .i64 t129] 25 (0, 0))) := ⟨by (with_reducible repeat (first | refine blk_drewN ?_ _ | refine blk_drew ?_ | refine blk_alloc ?_ _)); refine blk_put (cs := #[.int .u8 t122, .slice Ao23 t123.length co23, .slice Ao24 t126.length co24, .int .i64 0]) ?_ 3 _ rfl; (with_reducible repeat (first | refine blk_drewN ?_ _ | refine blk_drew ?_ | refine blk_alloc ?_ _)); refine blk_put (cs := #[.int .u8 t122, .slice Ao23 t123.length co23, .slice none 0 0, .int .i64 0]) ?_ 2 _ rfl; (with_reducible repeat (first | refine blk_drewN ?_ _ | refine blk_drew ?_ | refine blk_alloc ?_ _)); refine blk_put (cs := #[.int .u8 t122, .slice none 0 0, .slice none 0 0, .int .i64 0]) ?_ 1 _ rfl; (with_reducible repeat (first | refine blk_drewN ?_ _ | refine blk_drew ?_ | refine blk_alloc ?_ _)); refine blk_put (cs := #[.int .u8 0, .slice none 0 0, .slice none 0 0, .int .i64 0]) ?_ 0 _ rfl; (with_reducible repeat (first | refine blk_drewN ?_ _ | refine blk_drew ?_ | refine blk_alloc ?_ _)); exact BK132.out⟩
        have n7_ : Aside0 (Below w.heap.size w ((((w20.setCell ⟨gb132, 0, none⟩ (.int .u8 t122)).setCell ⟨gb132, 1, none⟩ (.slice Ao23 t123.length co23)).setCell ⟨gb132, 2, none⟩ (.slice Ao24 t126.length co24)).setCell ⟨gb132, 3, none⟩ (.int .i64 t129))) := ⟨by repeat (first | (with_reducible first | exact HB.out | apply below_alloc | apply pw_below_drewN | apply below_drew1 | refine below_set ?_ GE117.out | refine below_set ?_ GE132.out) | exact HB.out)⟩
        (try clear HO106)
        (try clear HO110)
        (try clear HO113)
        (try clear HO125)
        (try clear HO128)
        (try clear BK117)
        (try clear BK132)
        (try clear HB)
        generalize ((((w20.setCell ⟨gb132, 0, none⟩ (.int .u8 t122)).setCell ⟨gb132, 1, none⟩ (.slice Ao23 t123.length co23)).setCell ⟨gb132, 2, none⟩ (.slice Ao24 t126.length co24)).setCell ⟨gb132, 3, none⟩ (.int .i64 t129)) = w48 at n0_ n1_ n2_ n3_ n4_ n5_ n6_ n7_ ⊢
        have HO106 := n0_
        have HO110 := n1_
        have HO113 := n2_
        have HO125 := n3_
        have HO128 := n4_
        have BK117 := n5_
        have BK132 := n6_
        have HB := n7_
        clear n0_ n1_ n2_ n3_ n4_ n5_ n6_ n7_
        have n0_ := Aside0.mk (Kd.R_drew HO106.out)
        have n1_ := Aside0.mk (Kd.R_drew HO110.out)
        have n2_ := Aside0.mk (Kd.R_drew HO113.out)
        have n3_ := Aside0.mk (Kd.R_drew HO125.out)
        have n4_ := Aside0.mk (Kd.R_drew HO128.out)
        have n5_ := Aside0.mk (blk_drew BK117.out)
        have n6_ := Aside0.mk (blk_drew BK132.out)
        have n7_ := Aside0.mk (below_drew1 HB.out)
        clear HO106
        clear HO110
        clear HO113
        clear HO125
        clear HO128
        clear BK117
        clear BK132
        clear HB
        have HO106 := n0_
        have HO110 := n1_
        have HO113 := n2_
        have HO125 := n3_
        have HO128 := n4_
        have BK117 := n5_
        have BK132 := n6_
        have HB := n7_
        clear n0_ n1_ n2_ n3_ n4_ n5_ n6_ n7_
        refine start_ (n := 32) (S := fun w' => w'.cell? ⟨gb132, 0, none⟩ = some (.int .u8 t122) ∧ w'.cell? ⟨gb132, 1, none⟩ = some (.slice Ao23 t123.length co23) ∧ w'.cell? ⟨gb132, 2, none⟩ = some (.slice Ao24 t126.length co24) ∧ w'.cell? ⟨gb132, 3, none⟩ = some (.int .i64 t129) ∧ w'.cell? ⟨gb117, 0, none⟩ = some (.int .u8 t107) ∧ w'.cell? ⟨gb117, 1, none⟩ = some (.slice Ao14 t108.length co14) ∧ w'.cell? ⟨gb117, 2, none⟩ = some (.slice Ao15 t111.length co15) ∧ w'.cell? ⟨gb117, 3, none⟩ = some (.int .i64 t114)) (ds := []) #[false, false, false, false, false, false, false, false, false, false, false, false, false, false, false, false, false, false, false, false, false, false, false, false, false, false, false, false, false, false, false, false] (by kernel_rfl) rfl rfl ⟨(blk_cell BK132.out 0).trans rfl, (blk_cell BK132.out 1).trans rfl, (blk_cell BK132.out 2).trans rfl, (blk_cell BK132.out 3).trans rfl, (blk_cell BK117.out 0).trans rfl, (blk_cell BK117.out 1).trans rfl, (blk_cell BK117.out 2).trans rfl, (blk_cell BK117.out 3).trans rfl⟩ (fun hHeld => ?_); refine with_tabW vouchlaw21_CodeReads.tab6 vouchlaw21_CodeReads.bits6 (fun HT_ HW_ => ?_)
        generalize w48.drew = w49 at HO106 HO110 HO113 HO125 HO128 BK117 BK132 HB hHeld ⊢
        refine tk 0 (some 35) hHeld ?_; refine tk 1 (some 36) hHeld ?_
        refine on_ 2 (some 37) (fun K hK => ?_)
        refine goes_ Try.func12 (by kernel_rfl) rfl #[.agg #[.int .u8 t122, .slice Ao23 t123.length co23, .slice Ao24 t126.length co24, .int .i64 t129], .agg #[.int .u8 t107, .slice Ao14 t108.length co14, .slice Ao15 t111.length co15, .int .i64 t114]] (by rfl) rfl rfl (by (try simp only [List.map_toArray, List.map_cons, List.map_nil]); first | done | rfl | (simp only [List.length_drop, List.length_take]; rfl)) ?_
        with_reducible refine (vouchkit_SameProgram.calls k t122 _ _ t123 _ _ t126 t129 t107 _ _ t108 _ _ t111 t114 true _ ?side1 ?side2 ?side3 ?side4 ?side5 ?side6 ?side7 ?side8 A25.out).mono ?_
        (case side1 => repeat (first | exact (Kd.R_reads' HO125.out).2.2 | (with_reducible refine Kd.C_alloc ?_ _) | (with_reducible refine Kd.C_drewN ?_ _) | (with_reducible refine Kd.C_drew ?_)))
        (case side2 => exact (Kd.R_reads' HO125.out).2.1)
        (case side3 => repeat (first | exact (Kd.R_reads' HO128.out).2.2 | (with_reducible refine Kd.C_alloc ?_ _) | (with_reducible refine Kd.C_drewN ?_ _) | (with_reducible refine Kd.C_drew ?_)))
        (case side4 => exact (Kd.R_reads' HO128.out).2.1)
        (case side5 => repeat (first | exact (Kd.R_reads' HO110.out).2.2 | (with_reducible refine Kd.C_alloc ?_ _) | (with_reducible refine Kd.C_drewN ?_ _) | (with_reducible refine Kd.C_drew ?_)))
        (case side6 => exact (Kd.R_reads' HO110.out).2.1)
        (case side7 => repeat (first | exact (Kd.R_reads' HO113.out).2.2 | (with_reducible refine Kd.C_alloc ?_ _) | (with_reducible refine Kd.C_drewN ?_ _) | (with_reducible refine Kd.C_drew ?_)))
        (case side8 => exact (Kd.R_reads' HO113.out).2.1)
        rintro e w50 ⟨rfl, hb⟩
        refine ⟨_, rfl, ?_⟩
        have n0_ := Aside0.mk (Kd.R_below (kr HO106) hb)
        have n1_ := Aside0.mk (Kd.R_below (kr HO110) hb)
        have n2_ := Aside0.mk (Kd.R_below (kr HO113) hb)
        have n3_ := Aside0.mk (Kd.R_below (kr HO125) hb)
        have n4_ := Aside0.mk (Kd.R_below (kr HO128) hb)
        have n5_ := Aside0.mk (blk_below (g := gb117) (o := .cells #[.int .u8 t107, .slice Ao14 t108.length co14, .slice Ao15 t111.length co15, .int .i64 t114] 25 (0, 0)) (bk BK117) hb)
        have n6_ := Aside0.mk (blk_below (g := gb132) (o := .cells #[.int .u8 t122, .slice Ao23 t123.length co23, .slice Ao24 t126.length co24, .int .i64 t129] 25 (0, 0)) (bk BK132) hb)
        have n7_ := Aside0.mk (below_step (bl2 HB GE117 GE132) hb)
        clear HO106
        clear HO110
        clear HO113
        clear HO125
        clear HO128
        clear BK117
        clear BK132
        clear HB
        have HO106 := n0_
        have HO110 := n1_
        have HO113 := n2_
        have HO125 := n3_
        have HO128 := n4_
        have BK117 := n5_
        have BK132 := n6_
        have HB := n7_
        clear n0_ n1_ n2_ n3_ n4_ n5_ n6_ n7_
        (try clear hb)
        (try clear hb2)
        (try clear hk)
        (try clear hi)
        refine hK.out _ _ ⟨(blk_cell BK132.out 0).trans rfl, (blk_cell BK132.out 1).trans rfl, (blk_cell BK132.out 2).trans rfl, (blk_cell BK132.out 3).trans rfl, (blk_cell BK117.out 0).trans rfl, (blk_cell BK117.out 1).trans rfl, (blk_cell BK117.out 2).trans rfl, (blk_cell BK117.out 3).trans rfl⟩ (fun hHeld => ?_)
        clear hK K
        refine norm_ (a' := ?_) ?_ ?_
        rotate_left
        ·show Act.put _ (some 37) _ = _
         simp only [Act.put, List.setIfInBounds_toArray, List.set_cons_zero, List.set_cons_succ, i64_w, i32_w]
         rfl
        refine pu 3 (some 38) ?_; refine pu 4 (some 39) ?_; refine pu 5 (some 40) ?_; refine pu 6 (some 41) ?_; refine pu 7 (some 42) ?_; refine pu 8 (some 43) ?_; refine pu 9 (some 44) ?_; refine pz 10 (some 45) ?_; refine pz 11 (some 46) ?_; refine pz 12 (some 47) ?_; refine pu 13 (some 48) ?_; refine pu 14 (some 49) ?_; refine pz 15 (some 50) ?_; refine pz 16 (some 51) ?_; refine pz 17 (some 52) ?_; refine pz 18 (some 53) ?_; refine pz 19 (some 54) ?_; refine pz 20 (some 55) ?_; refine pz 21 (some 56) ?_; refine pz 22 (some 57) ?_; refine pu 23 (some 58) ?_; refine pu 24 (some 59) ?_; refine pz 25 (some 60) ?_; refine pz 26 (some 61) ?_; refine pz 27 (some 62) ?_; refine pz 28 (some 63) ?_; refine pz 29 (some 64) ?_; refine pz 30 (some 65) ?_; refine pu 31 (some 66) ?_
        refine done_ (done_of HT_.out (by kernel_rfl)) ?_
        try go_wp2
        go_meet
        case rel => exact ⟨_, (true), (by first | rfl | (simp; done) | (simp [*]; done)), H', ⟨by first | omega | exact Nat.le_refl _⟩, ⟨by (with_reducible repeat (first | apply Kd.R_alloc | apply Kd.R_drewN | apply Kd.R_drew)); exact HO106.out⟩, ⟨by (with_reducible repeat (first | apply Kd.R_alloc | apply Kd.R_drewN | apply Kd.R_drew)); exact HO110.out⟩, ⟨by (with_reducible repeat (first | apply Kd.R_alloc | apply Kd.R_drewN | apply Kd.R_drew)); exact HO113.out⟩, ⟨by (with_reducible repeat (first | apply Kd.R_alloc | apply Kd.R_drewN | apply Kd.R_drew)); exact HO125.out⟩, ⟨by (with_reducible repeat (first | apply Kd.R_alloc | apply Kd.R_drewN | apply Kd.R_drew)); exact HO128.out⟩, ⟨by (with_reducible repeat (first | refine blk_drewN ?_ _ | refine blk_drew ?_ | refine blk_alloc ?_ _)); exact BK117.out⟩, ⟨by (with_reducible repeat (first | refine blk_drewN ?_ _ | refine blk_drew ?_ | refine blk_alloc ?_ _)); exact BK132.out⟩, ⟨by repeat (first | (with_reducible first | exact HB.out | apply below_alloc | apply pw_below_drewN | apply below_drew1 | refine below_set ?_ GE117.out | refine below_set ?_ GE132.out) | exact HB.out)⟩⟩
      ·replace c26 := Bool.eq_false_iff.mpr c26
       subst c26
       have H1 : (vouchlaw21_CodeReads.j0 k l0 y104 true t107 t108 t111 t114 t122 t123 t126 t129) = some r := by rw [if_neg (show ¬ (false = true) by decide)] at H; exact H
       clear H
       have H := H1
       clear H1
       have H' := Aside0.mk H
       clear H
       try go_wp2
       have n0_ : Aside0 (Kd.R (Kd.int .u8) 5 ((((w20.setCell ⟨gb132, 0, none⟩ (.int .u8 t122)).setCell ⟨gb132, 1, none⟩ (.slice Ao23 t123.length co23)).setCell ⟨gb132, 2, none⟩ (.slice Ao24 t126.length co24)).setCell ⟨gb132, 3, none⟩ (.int .i64 t129)) w.heap.size (fun _ => True) (.slice Ao18 y104.length co18) y104) := ⟨by (with_reducible repeat (first | apply Kd.R_alloc | apply Kd.R_drewN | apply Kd.R_drew)); exact Kd.R_mono (Kd.R_far (p := ⟨gb132, 3, none⟩) (Kd.R_far (p := ⟨gb132, 2, none⟩) (Kd.R_far (p := ⟨gb132, 1, none⟩) (Kd.R_far (p := ⟨gb132, 0, none⟩) (Kd.R_types HO106.out BK132.out (by decide)) (fun _ hk => hk.2) (.int .u8 t122)) (fun _ hk => hk.2) (.slice Ao23 t123.length co23)) (fun _ hk => hk.2) (.slice Ao24 t126.length co24)) (fun _ hk => hk.2) (.int .i64 t129)) (fun _ hk => trivial)⟩
       have n1_ : Aside0 (Kd.R Kd.string 9 ((((w20.setCell ⟨gb132, 0, none⟩ (.int .u8 t122)).setCell ⟨gb132, 1, none⟩ (.slice Ao23 t123.length co23)).setCell ⟨gb132, 2, none⟩ (.slice Ao24 t126.length co24)).setCell ⟨gb132, 3, none⟩ (.int .i64 t129)) w.heap.size (fun k_ => some k_ ≠ (.slice Ao23 t123.length co23 : Value).ownBlock) (.slice Ao14 t108.length co14) t108) := ⟨by (with_reducible repeat (first | apply Kd.R_alloc | apply Kd.R_drewN | apply Kd.R_drew)); exact Kd.R_mono (Kd.R_far (p := ⟨gb132, 3, none⟩) (Kd.R_far (p := ⟨gb132, 2, none⟩) (Kd.R_far (p := ⟨gb132, 1, none⟩) (Kd.R_far (p := ⟨gb132, 0, none⟩) (Kd.R_types HO110.out BK132.out (by decide)) (fun _ hk => hk.2) (.int .u8 t122)) (fun _ hk => hk.2) (.slice Ao23 t123.length co23)) (fun _ hk => hk.2) (.slice Ao24 t126.length co24)) (fun _ hk => hk.2) (.int .i64 t129)) (fun _ hk => hk.1.2)⟩
       have n2_ : Aside0 (Kd.R k41 41 ((((w20.setCell ⟨gb132, 0, none⟩ (.int .u8 t122)).setCell ⟨gb132, 1, none⟩ (.slice Ao23 t123.length co23)).setCell ⟨gb132, 2, none⟩ (.slice Ao24 t126.length co24)).setCell ⟨gb132, 3, none⟩ (.int .i64 t129)) w.heap.size (fun k_ => some k_ ≠ (.slice Ao24 t126.length co24 : Value).ownBlock) (.slice Ao15 t111.length co15) t111) := ⟨by (with_reducible repeat (first | apply Kd.R_alloc | apply Kd.R_drewN | apply Kd.R_drew)); exact Kd.R_mono (Kd.R_far (p := ⟨gb132, 3, none⟩) (Kd.R_far (p := ⟨gb132, 2, none⟩) (Kd.R_far (p := ⟨gb132, 1, none⟩) (Kd.R_far (p := ⟨gb132, 0, none⟩) (Kd.R_types HO113.out BK132.out (by decide)) (fun _ hk => hk.2) (.int .u8 t122)) (fun _ hk => hk.2) (.slice Ao23 t123.length co23)) (fun _ hk => hk.2) (.slice Ao24 t126.length co24)) (fun _ hk => hk.2) (.int .i64 t129)) (fun _ hk => hk.1.2)⟩
       have n3_ : Aside0 (Kd.R Kd.string 9 ((((w20.setCell ⟨gb132, 0, none⟩ (.int .u8 t122)).setCell ⟨gb132, 1, none⟩ (.slice Ao23 t123.length co23)).setCell ⟨gb132, 2, none⟩ (.slice Ao24 t126.length co24)).setCell ⟨gb132, 3, none⟩ (.int .i64 t129)) w.heap.size (fun k_ => some k_ ≠ (.slice Ao14 t108.length co14 : Value).ownBlock) (.slice Ao23 t123.length co23) t123) := ⟨by (with_reducible repeat (first | apply Kd.R_alloc | apply Kd.R_drewN | apply Kd.R_drew)); exact Kd.R_mono (Kd.R_far (p := ⟨gb132, 3, none⟩) (Kd.R_far (p := ⟨gb132, 2, none⟩) (Kd.R_far (p := ⟨gb132, 1, none⟩) (Kd.R_far (p := ⟨gb132, 0, none⟩) (Kd.R_types HO125.out BK132.out (by decide)) (fun _ hk => hk.2) (.int .u8 t122)) (fun _ hk => hk.2) (.slice Ao23 t123.length co23)) (fun _ hk => hk.2) (.slice Ao24 t126.length co24)) (fun _ hk => hk.2) (.int .i64 t129)) (fun _ hk => hk.1.2)⟩
       have n4_ : Aside0 (Kd.R k41 41 ((((w20.setCell ⟨gb132, 0, none⟩ (.int .u8 t122)).setCell ⟨gb132, 1, none⟩ (.slice Ao23 t123.length co23)).setCell ⟨gb132, 2, none⟩ (.slice Ao24 t126.length co24)).setCell ⟨gb132, 3, none⟩ (.int .i64 t129)) w.heap.size (fun k_ => some k_ ≠ (.slice Ao15 t111.length co15 : Value).ownBlock) (.slice Ao24 t126.length co24) t126) := ⟨by (with_reducible repeat (first | apply Kd.R_alloc | apply Kd.R_drewN | apply Kd.R_drew)); exact Kd.R_mono (Kd.R_far (p := ⟨gb132, 3, none⟩) (Kd.R_far (p := ⟨gb132, 2, none⟩) (Kd.R_far (p := ⟨gb132, 1, none⟩) (Kd.R_far (p := ⟨gb132, 0, none⟩) (Kd.R_types HO128.out BK132.out (by decide)) (fun _ hk => hk.2) (.int .u8 t122)) (fun _ hk => hk.2) (.slice Ao23 t123.length co23)) (fun _ hk => hk.2) (.slice Ao24 t126.length co24)) (fun _ hk => hk.2) (.int .i64 t129)) (fun _ hk => hk.1.2)⟩
       have n5_ : Aside0 (((((w20.setCell ⟨gb132, 0, none⟩ (.int .u8 t122)).setCell ⟨gb132, 1, none⟩ (.slice Ao23 t123.length co23)).setCell ⟨gb132, 2, none⟩ (.slice Ao24 t126.length co24)).setCell ⟨gb132, 3, none⟩ (.int .i64 t129)).heap[gb117]? = some (.cells #[.int .u8 t107, .slice Ao14 t108.length co14, .slice Ao15 t111.length co15, .int .i64 t114] 25 (0, 0))) := ⟨by (with_reducible repeat (first | refine blk_drewN ?_ _ | refine blk_drew ?_ | refine blk_alloc ?_ _)); refine blk_far ?_ NB117_132.out _; (with_reducible repeat (first | refine blk_drewN ?_ _ | refine blk_drew ?_ | refine blk_alloc ?_ _)); refine blk_far ?_ NB117_132.out _; (with_reducible repeat (first | refine blk_drewN ?_ _ | refine blk_drew ?_ | refine blk_alloc ?_ _)); refine blk_far ?_ NB117_132.out _; (with_reducible repeat (first | refine blk_drewN ?_ _ | refine blk_drew ?_ | refine blk_alloc ?_ _)); refine blk_far ?_ NB117_132.out _; (with_reducible repeat (first | refine blk_drewN ?_ _ | refine blk_drew ?_ | refine blk_alloc ?_ _)); exact BK117.out⟩
       have n6_ : Aside0 (((((w20.setCell ⟨gb132, 0, none⟩ (.int .u8 t122)).setCell ⟨gb132, 1, none⟩ (.slice Ao23 t123.length co23)).setCell ⟨gb132, 2, none⟩ (.slice Ao24 t126.length co24)).setCell ⟨gb132, 3, none⟩ (.int .i64 t129)).heap[gb132]? = some (.cells #[.int .u8 t122, .slice Ao23 t123.length co23, .slice Ao24 t126.length co24, .int .i64 t129] 25 (0, 0))) := ⟨by (with_reducible repeat (first | refine blk_drewN ?_ _ | refine blk_drew ?_ | refine blk_alloc ?_ _)); refine blk_put (cs := #[.int .u8 t122, .slice Ao23 t123.length co23, .slice Ao24 t126.length co24, .int .i64 0]) ?_ 3 _ rfl; (with_reducible repeat (first | refine blk_drewN ?_ _ | refine blk_drew ?_ | refine blk_alloc ?_ _)); refine blk_put (cs := #[.int .u8 t122, .slice Ao23 t123.length co23, .slice none 0 0, .int .i64 0]) ?_ 2 _ rfl; (with_reducible repeat (first | refine blk_drewN ?_ _ | refine blk_drew ?_ | refine blk_alloc ?_ _)); refine blk_put (cs := #[.int .u8 t122, .slice none 0 0, .slice none 0 0, .int .i64 0]) ?_ 1 _ rfl; (with_reducible repeat (first | refine blk_drewN ?_ _ | refine blk_drew ?_ | refine blk_alloc ?_ _)); refine blk_put (cs := #[.int .u8 0, .slice none 0 0, .slice none 0 0, .int .i64 0]) ?_ 0 _ rfl; (with_reducible repeat (first | refine blk_drewN ?_ _ | refine blk_drew ?_ | refine blk_alloc ?_ _)); exact BK132.out⟩
       have n7_ : Aside0 (Below w.heap.size w ((((w20.setCell ⟨gb132, 0, none⟩ (.int .u8 t122)).setCell ⟨gb132, 1, none⟩ (.slice Ao23 t123.length co23)).setCell ⟨gb132, 2, none⟩ (.slice Ao24 t126.length co24)).setCell ⟨gb132, 3, none⟩ (.int .i64 t129))) := ⟨by repeat (first | (with_reducible first | exact HB.out | apply below_alloc | apply pw_below_drewN | apply below_drew1 | refine below_set ?_ GE117.out | refine below_set ?_ GE132.out) | exact HB.out)⟩
       (try clear HO106)
       (try clear HO110)
       (try clear HO113)
       (try clear HO125)
       (try clear HO128)
       (try clear BK117)
       (try clear BK132)
       (try clear HB)
       generalize ((((w20.setCell ⟨gb132, 0, none⟩ (.int .u8 t122)).setCell ⟨gb132, 1, none⟩ (.slice Ao23 t123.length co23)).setCell ⟨gb132, 2, none⟩ (.slice Ao24 t126.length co24)).setCell ⟨gb132, 3, none⟩ (.int .i64 t129)) = w51 at n0_ n1_ n2_ n3_ n4_ n5_ n6_ n7_ ⊢
       have HO106 := n0_
       have HO110 := n1_
       have HO113 := n2_
       have HO125 := n3_
       have HO128 := n4_
       have BK117 := n5_
       have BK132 := n6_
       have HB := n7_
       clear n0_ n1_ n2_ n3_ n4_ n5_ n6_ n7_
       have n0_ := Aside0.mk (Kd.R_drew HO106.out)
       have n1_ := Aside0.mk (Kd.R_drew HO110.out)
       have n2_ := Aside0.mk (Kd.R_drew HO113.out)
       have n3_ := Aside0.mk (Kd.R_drew HO125.out)
       have n4_ := Aside0.mk (Kd.R_drew HO128.out)
       have n5_ := Aside0.mk (blk_drew BK117.out)
       have n6_ := Aside0.mk (blk_drew BK132.out)
       have n7_ := Aside0.mk (below_drew1 HB.out)
       clear HO106
       clear HO110
       clear HO113
       clear HO125
       clear HO128
       clear BK117
       clear BK132
       clear HB
       have HO106 := n0_
       have HO110 := n1_
       have HO113 := n2_
       have HO125 := n3_
       have HO128 := n4_
       have BK117 := n5_
       have BK132 := n6_
       have HB := n7_
       clear n0_ n1_ n2_ n3_ n4_ n5_ n6_ n7_
       refine start_ (n := 32) (S := fun w' => w'.cell? ⟨gb132, 0, none⟩ = some (.int .u8 t122) ∧ w'.cell? ⟨gb132, 1, none⟩ = some (.slice Ao23 t123.length co23) ∧ w'.cell? ⟨gb132, 2, none⟩ = some (.slice Ao24 t126.length co24) ∧ w'.cell? ⟨gb132, 3, none⟩ = some (.int .i64 t129) ∧ w'.cell? ⟨gb117, 0, none⟩ = some (.int .u8 t107) ∧ w'.cell? ⟨gb117, 1, none⟩ = some (.slice Ao14 t108.length co14) ∧ w'.cell? ⟨gb117, 2, none⟩ = some (.slice Ao15 t111.length co15) ∧ w'.cell? ⟨gb117, 3, none⟩ = some (.int .i64 t114)) (ds := []) #[false, false, false, false, false, false, false, false, false, false, false, false, false, false, false, false, false, false, false, false, false, false, false, false, false, false, false, false, false, false, false, false] (by kernel_rfl) rfl rfl ⟨(blk_cell BK132.out 0).trans rfl, (blk_cell BK132.out 1).trans rfl, (blk_cell BK132.out 2).trans rfl, (blk_cell BK132.out 3).trans rfl, (blk_cell BK117.out 0).trans rfl, (blk_cell BK117.out 1).trans rfl, (blk_cell BK117.out 2).trans rfl, (blk_cell BK117.out 3).trans rfl⟩ (fun hHeld => ?_); refine with_tabW vouchlaw21_CodeReads.tab6 vouchlaw21_CodeReads.bits6 (fun HT_ HW_ => ?_)
       generalize w51.drew = w52 at HO106 HO110 HO113 HO125 HO128 BK117 BK132 HB hHeld ⊢
       refine tk 0 (some 35) hHeld ?_; refine tk 1 (some 36) hHeld ?_
       refine on_ 2 (some 37) (fun K hK => ?_)
       refine goes_ Try.func12 (by kernel_rfl) rfl #[.agg #[.int .u8 t122, .slice Ao23 t123.length co23, .slice Ao24 t126.length co24, .int .i64 t129], .agg #[.int .u8 t107, .slice Ao14 t108.length co14, .slice Ao15 t111.length co15, .int .i64 t114]] (by rfl) rfl rfl (by (try simp only [List.map_toArray, List.map_cons, List.map_nil]); first | done | rfl | (simp only [List.length_drop, List.length_take]; rfl)) ?_
       with_reducible refine (vouchkit_SameProgram.calls k t122 _ _ t123 _ _ t126 t129 t107 _ _ t108 _ _ t111 t114 false _ ?side1 ?side2 ?side3 ?side4 ?side5 ?side6 ?side7 ?side8 A25.out).mono ?_
       (case side1 => repeat (first | exact (Kd.R_reads' HO125.out).2.2 | (with_reducible refine Kd.C_alloc ?_ _) | (with_reducible refine Kd.C_drewN ?_ _) | (with_reducible refine Kd.C_drew ?_)))
       (case side2 => exact (Kd.R_reads' HO125.out).2.1)
       (case side3 => repeat (first | exact (Kd.R_reads' HO128.out).2.2 | (with_reducible refine Kd.C_alloc ?_ _) | (with_reducible refine Kd.C_drewN ?_ _) | (with_reducible refine Kd.C_drew ?_)))
       (case side4 => exact (Kd.R_reads' HO128.out).2.1)
       (case side5 => repeat (first | exact (Kd.R_reads' HO110.out).2.2 | (with_reducible refine Kd.C_alloc ?_ _) | (with_reducible refine Kd.C_drewN ?_ _) | (with_reducible refine Kd.C_drew ?_)))
       (case side6 => exact (Kd.R_reads' HO110.out).2.1)
       (case side7 => repeat (first | exact (Kd.R_reads' HO113.out).2.2 | (with_reducible refine Kd.C_alloc ?_ _) | (with_reducible refine Kd.C_drewN ?_ _) | (with_reducible refine Kd.C_drew ?_)))
       (case side8 => exact (Kd.R_reads' HO113.out).2.1)
       rintro e w53 ⟨rfl, hb⟩
       refine ⟨_, rfl, ?_⟩
       have n0_ := Aside0.mk (Kd.R_below (kr HO106) hb)
       have n1_ := Aside0.mk (Kd.R_below (kr HO110) hb)
       have n2_ := Aside0.mk (Kd.R_below (kr HO113) hb)
       have n3_ := Aside0.mk (Kd.R_below (kr HO125) hb)
       have n4_ := Aside0.mk (Kd.R_below (kr HO128) hb)
       have n5_ := Aside0.mk (blk_below (g := gb117) (o := .cells #[.int .u8 t107, .slice Ao14 t108.length co14, .slice Ao15 t111.length co15, .int .i64 t114] 25 (0, 0)) (bk BK117) hb)
       have n6_ := Aside0.mk (blk_below (g := gb132) (o := .cells #[.int .u8 t122, .slice Ao23 t123.length co23, .slice Ao24 t126.length co24, .int .i64 t129] 25 (0, 0)) (bk BK132) hb)
       have n7_ := Aside0.mk (below_step (bl2 HB GE117 GE132) hb)
       clear HO106
       clear HO110
       clear HO113
       clear HO125
       clear HO128
       clear BK117
       clear BK132
       clear HB
       have HO106 := n0_
       have HO110 := n1_
       have HO113 := n2_
       have HO125 := n3_
       have HO128 := n4_
       have BK117 := n5_
       have BK132 := n6_
       have HB := n7_
       clear n0_ n1_ n2_ n3_ n4_ n5_ n6_ n7_
       (try clear hb)
       (try clear hb2)
       (try clear hk)
       (try clear hi)
       refine hK.out _ _ ⟨(blk_cell BK132.out 0).trans rfl, (blk_cell BK132.out 1).trans rfl, (blk_cell BK132.out 2).trans rfl, (blk_cell BK132.out 3).trans rfl, (blk_cell BK117.out 0).trans rfl, (blk_cell BK117.out 1).trans rfl, (blk_cell BK117.out 2).trans rfl, (blk_cell BK117.out 3).trans rfl⟩ (fun hHeld => ?_)
       clear hK K
       refine norm_ (a' := ?_) ?_ ?_
       rotate_left
       ·show Act.put _ (some 37) _ = _
        simp only [Act.put, List.setIfInBounds_toArray, List.set_cons_zero, List.set_cons_succ, i64_w, i32_w]
        rfl
       refine pu 3 (some 38) ?_; refine pu 4 (some 39) ?_; refine pz 5 (some 40) ?_; refine pz 6 (some 41) ?_; refine pz 7 (some 42) ?_; refine pu 8 (some 43) ?_; refine pu 9 (some 44) ?_; refine pz 10 (some 45) ?_; refine pz 11 (some 46) ?_; refine pz 12 (some 47) ?_; refine pu 13 (some 48) ?_; refine pu 14 (some 49) ?_; refine pz 15 (some 50) ?_; refine pz 16 (some 51) ?_; refine pz 17 (some 52) ?_; refine pz 18 (some 53) ?_; refine pz 19 (some 54) ?_; refine pz 20 (some 55) ?_; refine pz 21 (some 56) ?_; refine pz 22 (some 57) ?_; refine pu 23 (some 58) ?_; refine pu 24 (some 59) ?_; refine pz 25 (some 60) ?_; refine pz 26 (some 61) ?_; refine pz 27 (some 62) ?_; refine pz 28 (some 63) ?_; refine pz 29 (some 64) ?_; refine pz 30 (some 65) ?_; refine pu 31 (some 66) ?_
       refine done_ (done_of HT_.out (by kernel_rfl)) ?_
       try go_wp2
       go_meet
       case rel => exact ⟨_, (true), (by first | rfl | (simp; done) | (simp [*]; done)), H', ⟨by first | omega | exact Nat.le_refl _⟩, ⟨by (with_reducible repeat (first | apply Kd.R_alloc | apply Kd.R_drewN | apply Kd.R_drew)); exact HO106.out⟩, ⟨by (with_reducible repeat (first | apply Kd.R_alloc | apply Kd.R_drewN | apply Kd.R_drew)); exact HO110.out⟩, ⟨by (with_reducible repeat (first | apply Kd.R_alloc | apply Kd.R_drewN | apply Kd.R_drew)); exact HO113.out⟩, ⟨by (with_reducible repeat (first | apply Kd.R_alloc | apply Kd.R_drewN | apply Kd.R_drew)); exact HO125.out⟩, ⟨by (with_reducible repeat (first | apply Kd.R_alloc | apply Kd.R_drewN | apply Kd.R_drew)); exact HO128.out⟩, ⟨by (with_reducible repeat (first | refine blk_drewN ?_ _ | refine blk_drew ?_ | refine blk_alloc ?_ _)); exact BK117.out⟩, ⟨by (with_reducible repeat (first | refine blk_drewN ?_ _ | refine blk_drew ?_ | refine blk_alloc ?_ _)); exact BK132.out⟩, ⟨by repeat (first | (with_reducible first | exact HB.out | apply below_alloc | apply pw_below_drewN | apply below_drew1 | refine below_set ?_ GE117.out | refine below_set ?_ GE132.out) | exact HB.out)⟩⟩
     case rest =>
      clear HC8
      try clear c1
      try clear c2
      try clear p2
      try clear c12
      try clear c26
      try clear c27
      try clear c27b0
      try clear c27b1
      obtain ⟨kq, x66_7, rfl, HA, HJ7, HO_3, HO_118001, HO_118002, HO_133001, HO_133002, BK117, BK132, HB⟩ := hcut
      cases kq with
      | zero => exact absurd HA.out (by simp [vouchlaw21_CodeReads.j0])
      | succ kj7 =>
       have H := HA.out
       clear HA
       simp only [vouchlaw21_CodeReads.j0] at H
       by_cases c54 : x66_7 = true
       ·subst c54
        have H1 : (some false) = some r := by rw [if_pos rfl] at H; exact H
        clear H
        have H := H1
        clear H1
        obtain rfl := Option.some.inj H
        go_wp2
        go_ret
        exact ⟨by first | rfl | (simp [errW_none, errW_some] <;> rfl) | (simp [*, errW_none, errW_some] <;> rfl), by repeat (first | (with_reducible first | exact HB.out | apply below_alloc | apply pw_below_drewN | apply below_drew1 | refine below_set ?_ GE117.out | refine below_set ?_ GE132.out) | exact HB.out)⟩
       ·replace c54 := Bool.eq_false_iff.mpr c54
        subst c54
        have H1 : ((vouchkit_SpoilProgram.f kj7 t122 t123 t126 t129).bind fun bt139 => (if 0 ≤ (l0.length : Int) then (if (l0.length : Int) ≤ (y104.length : Int) then ((code_Decode.f kj7 (y104.take ((l0.length : Int) : Int).toNat)).bind fun bt145 => (vouchlaw21_CodeReads.l0 kj7 l0 y104 0 t107 t108 t111 t114 bt145.1 bt145.2.1 bt145.2.2.1 bt145.2.2.2.1)) else (none)) else (none))) = some r := by rw [if_neg (show ¬ (false = true) by decide)] at H; exact H
        clear H
        have H := H1
        clear H1
        replace H := Option.bind_eq_some_iff.mp H
        obtain ⟨⟨t139, t140⟩, A550, H⟩ := H
        replace H : (if 0 ≤ (l0.length : Int) then (if (l0.length : Int) ≤ (y104.length : Int) then ((code_Decode.f kj7 (y104.take ((l0.length : Int) : Int).toNat)).bind fun bt145 => (vouchlaw21_CodeReads.l0 kj7 l0 y104 0 t107 t108 t111 t114 bt145.1 bt145.2.1 bt145.2.2.1 bt145.2.2.2.1)) else (none)) else (none)) = some r := H
        have A55 := Aside0.mk A550
        clear A550
        by_cases c56 : 0 ≤ (l0.length : Int)
        ·rw [if_pos c56] at H
         have c56b0 := eq_true c56
         have c56b1 : decide (0 ≤ (l0.length : Int)) = true := decide_eq_true c56
         clear c56
         by_cases c57 : (l0.length : Int) ≤ (y104.length : Int)
         ·rw [if_pos c57] at H
          have c57b0 := eq_true c57
          have c57b1 : decide ((l0.length : Int) ≤ (y104.length : Int)) = true := decide_eq_true c57
          clear c57
          obtain ⟨y141, hy141⟩ : ∃ y_ : List Int, y_ = (y104.take ((l0.length : Int) : Int).toNat) := ⟨_, rfl⟩
          replace H : ((code_Decode.f kj7 y141).bind fun bt145 => (vouchlaw21_CodeReads.l0 kj7 l0 y104 0 t107 t108 t111 t114 bt145.1 bt145.2.1 bt145.2.2.1 bt145.2.2.2.1)) = some r := by first | (rw [hy141]; with_reducible exact H) | (have H2_ := (Option.bind_some _ _).symm.trans H; rw [hy141]; with_reducible exact H2_) | (have H2_ := (Option.bind_some _ _).symm.trans H; with_reducible exact H2_) | with_reducible exact H | (rw [hy141]; exact H) | exact H
          have Ny141 := Aside0.mk hy141
          clear hy141
          replace H := Option.bind_eq_some_iff.mp H
          obtain ⟨⟨t145, t146, t149, t152, t153, t154⟩, A580, H⟩ := H
          replace H : (vouchlaw21_CodeReads.l0 kj7 l0 y104 0 t107 t108 t111 t114 t145 t146 t149 t152) = some r := H
          have A58 := Aside0.mk A580
          clear A580
          have H' := Aside0.mk H
          clear H
          have hnb59 := NB132_117.out
          have hnc59 := NB117_132.out
          have hcz60_0 : wc.cell? ⟨gb132, 0, none⟩ = some (.int .u8 t122) := (blk_cell BK132.out 0).trans rfl
          have hcz60_1 : wc.cell? ⟨gb132, 1, none⟩ = some (.slice Ao23 t123.length co23) := (blk_cell BK132.out 1).trans rfl
          have hcz60_2 : wc.cell? ⟨gb132, 2, none⟩ = some (.slice Ao24 t126.length co24) := (blk_cell BK132.out 2).trans rfl
          have hcz60_3 : wc.cell? ⟨gb132, 3, none⟩ = some (.int .i64 t129) := (blk_cell BK132.out 3).trans rfl
          have hfz60_0 := blk_frozen BK132.out 0
          have hfz60_1 := blk_frozen BK132.out 1
          have hfz60_2 := blk_frozen BK132.out 2
          have hfz60_3 := blk_frozen BK132.out 3
          go_wp2_with (first | ((with_reducible refine gate_callee (f := 21) rfl ?_); refine goesL_ (some 68) rfl rfl Try.func21 (by kernel_rfl) rfl #[.agg #[.int .u8 t122, .slice Ao23 t123.length co23, .slice Ao24 t126.length co24, .int .i64 t129]] rfl (by (try simp only [List.map_toArray, List.map_cons, List.map_nil]); first | done | rfl | (simp only [List.length_drop, List.length_take]; rfl)) ?_; (with_reducible refine (vouchkit_SpoilProgram.calls kj7 t122 (fun k_ => some k_ = (.slice Ao23 t123.length co23 : Value).ownBlock) (.slice Ao23 t123.length co23) t123 (fun k_ => some k_ = (.slice Ao24 t126.length co24 : Value).ownBlock) (.slice Ao24 t126.length co24) t126 t129 t139 t140 w _ ?side1 ?side2 ?side3 A55.out).mono ?_); (case side1 => repeat (first | (with_reducible first | exact HB.out | apply below_alloc | apply pw_below_drewN | apply below_drew1 | refine below_set ?_ GE117.out | refine below_set ?_ GE132.out) | exact HB.out)); (case side2 => exact Kd.R_tight rfl HO_133001.out); (case side3 => exact Kd.R_tight rfl HO_133002.out); rintro e w61 ⟨rfl, hy0, hy1, hb, hkp⟩; refine ⟨_, rfl, ?_⟩; have n0_ := Aside0.mk (Kd.R_mono (ok' := fun k_ => True) (Kd.R_keptB ((Kd.R_apart' (Kd.R_apart' HO_3.out (Kd.R_typed HO_133001.out) (by decide)) (Kd.R_typed HO_133002.out) (by decide))) hkp (fun k_ hk_ hs_ => Or.elim hs_ (fun e_ => (hk_.1.2) e_) (fun e_ => (hk_.2) e_))) (fun k_ hk_ => trivial)); have n1_ := Aside0.mk (Kd.R_mono (ok' := fun k_ => some k_ ≠ (.slice Ao23 t123.length co23 : Value).ownBlock) (Kd.R_keptB ((Kd.R_apart' HO_118001.out (Kd.R_typed HO_133002.out) (by decide))) hkp (fun k_ hk_ hs_ => Or.elim hs_ (fun e_ => (hk_.1) e_) (fun e_ => (hk_.2) e_))) (fun k_ hk_ => hk_.1.1)); have n2_ := Aside0.mk (Kd.R_mono (ok' := fun k_ => some k_ ≠ (.slice Ao24 t126.length co24 : Value).ownBlock) (Kd.R_keptB ((Kd.R_apart' HO_118002.out (Kd.R_typed HO_133001.out) (by decide))) hkp (fun k_ hk_ hs_ => Or.elim hs_ (fun e_ => (hk_.2) e_) (fun e_ => (hk_.1) e_))) (fun k_ hk_ => hk_.1.1)); have n3_ := Aside0.mk (Kd.R_reok rfl hy0 (fun k_ e_ => HO_133001.out.1 k_ e_)); have n4_ := Aside0.mk (Kd.R_reok rfl hy1 (fun k_ e_ => HO_133002.out.1 k_ e_)); have n5_ := Aside0.mk (blk_kept (bk BK117) hkp (fun hs_ => Or.elim hs_ (fun e_ => (fun e_ => (Kd.R_ne HO_133001.out BK117.out (by decide)) e_) e_) (fun e_ => (fun e_ => (Kd.R_ne HO_133002.out BK117.out (by decide)) e_) e_))); have n6_ := Aside0.mk (blk_kept (bk BK132) hkp (fun hs_ => Or.elim hs_ (fun e_ => (fun e_ => (Kd.R_ne HO_133001.out BK132.out (by decide)) e_) e_) (fun e_ => (fun e_ => (Kd.R_ne HO_133002.out BK132.out (by decide)) e_) e_))); have n7_ := Aside0.mk (hb); clear HO_3; clear HO_118001; clear HO_118002; clear HO_133001; clear HO_133002; clear BK117; clear BK132; clear HB; have HO_3 := n0_; have HO_118001 := n1_; have HO_118002 := n2_; have HO_133001 := n3_; have HO_133002 := n4_; have BK117 := n5_; have BK132 := n6_; have HB := n7_; clear n0_ n1_ n2_ n3_ n4_ n5_ n6_ n7_; (try clear hb); (try clear hkp); (try clear hy0); (try clear hy1); have q62 : ((l0.length : Int) : Int) ≤ ((y104.length : Int) : Int) := of_decide_eq_true (by first | (with_reducible assumption) | assumption); obtain ⟨i062, hi062, _, hsz62, _⟩ := info_parts info5; have hroom62 : y104.length ≤ co18 := (Kd.R_reads' HO_3.out).2.1; have hC62 : Kd.C (Kd.int .u8) _ Ao18 y104.length y104 := (Kd.R_reads' HO_3.out).2.2; (try clear hcut17); (try clear hcut36); (try clear hcut42); have hcut62 := cut_to (P := Try.prog) 27 5 .i64 Try.underlying27 hi062 Ao18 y104.length co18 (l0.length : Int) (of_decide_eq_true (by first | (with_reducible assumption) | assumption)) q62 hroom62; have hr62 := Kd.C_take (m := ((l0.length : Int) : Int).toNat) hC62 (by omega); have hy62 : y141.length = ((l0.length : Int) : Int).toNat := (by rw [Ny141.out, List.length_take]; omega); rw [← Ny141.out] at hr62; rw [← hy62] at hcut62; have HR144 := Aside0.mk hr62; have HC144 := Aside0.mk (show y141.length ≤ co18 from by omega); clear hr62 hC62 hroom62 hi062 hsz62; have KY62 := Aside0.mk hy62; clear hy62; have KL62 := Aside0.mk (show ((l0.length : Int) : Int).toNat ≤ y104.length from by omega); replace q62 := eq_true q62) | ((with_reducible refine gate_callee (f := 20) rfl ?_); refine goesL_ (some 74) rfl rfl Try.func20 (by kernel_rfl) rfl #[.slice Ao18 y141.length co18] rfl (by (try simp only [List.map_toArray, List.map_cons, List.map_nil]); first | done | rfl | (simp only [List.length_drop, List.length_take]; rfl)) ?_; (with_reducible refine (code_Decode.calls kj7 _ _ y141 t145 t146 t149 t152 t153 t154 _ ?side1 ?side2 A58.out).mono ?_); (case side1 => repeat (first | exact (by repeat (first | (with_reducible exact HR144.out) | (with_reducible refine Kd.C_alloc ?_ _) | (with_reducible refine Kd.C_drewN ?_ _) | (with_reducible refine Kd.C_drew ?_) | exact HR144.out)) | (with_reducible refine Kd.C_alloc ?_ _) | (with_reducible refine Kd.C_drewN ?_ _) | (with_reducible refine Kd.C_drew ?_))); (case side2 => exact HC144.out); rintro e w63 ⟨v147, v150, rfl, ho0, ho1, hb⟩; refine ⟨_, rfl, ?_⟩; have n0_ := Aside0.mk (Kd.R_below (kr HO_3) hb); have n1_ := Aside0.mk (Kd.R_elder' (kr HO_118001) (Kd.R_base ho0) hb); have n2_ := Aside0.mk (Kd.R_elder' (kr HO_118002) (Kd.R_base ho1) hb); have n3_ := Aside0.mk (Kd.R_elder' (kr HO_133001) (Kd.R_base ho0) hb); have n4_ := Aside0.mk (Kd.R_elder' (kr HO_133002) (Kd.R_base ho1) hb); have n5_ := Aside0.mk (Kd.R_lower (Kd.R_new' (Kd.R_new' ho0 (Kd.R_lt (kr HO_118001))) (Kd.R_lt (kr HO_133001))) (below_size (bl2 HB GE117 GE132))); have n6_ := Aside0.mk (Kd.R_lower (Kd.R_new' (Kd.R_new' ho1 (Kd.R_lt (kr HO_118002))) (Kd.R_lt (kr HO_133002))) (below_size (bl2 HB GE117 GE132))); have n7_ := Aside0.mk (blk_below (g := gb117) (o := .cells #[.int .u8 t107, .slice Ao14 t108.length co14, .slice Ao15 t111.length co15, .int .i64 t114] 25 (0, 0)) (bk BK117) hb); have n8_ := Aside0.mk (blk_below (g := gb132) (o := .cells #[.int .u8 t122, .slice Ao23 t123.length co23, .slice Ao24 t126.length co24, .int .i64 t129] 25 (0, 0)) (bk BK132) hb); have n9_ := Aside0.mk (Kd.C_below (by repeat (first | (with_reducible exact HR144.out) | (with_reducible refine Kd.C_alloc ?_ _) | (with_reducible refine Kd.C_drewN ?_ _) | (with_reducible refine Kd.C_drew ?_) | exact HR144.out)) hb); have n10_ := Aside0.mk (below_step (bl2 HB GE117 GE132) hb); clear HO_3; clear HO_118001; clear HO_118002; clear HO_133001; clear HO_133002; clear BK117; clear BK132; clear HR144; clear HB; have HO_3 := n0_; have HO_118001 := n1_; have HO_118002 := n2_; have HO_133001 := n3_; have HO_133002 := n4_; have HO148 := n5_; have HO151 := n6_; have BK117 := n7_; have BK132 := n8_; have HR144 := n9_; have HB := n10_; clear n0_ n1_ n2_ n3_ n4_ n5_ n6_ n7_ n8_ n9_ n10_; (try clear hb); (try clear hb2); (try clear hk); (try clear hi); (try clear ho0); (try clear ho1)) | ((with_reducible refine gate_dst (N := 10) rfl ?_); (try (refine gate_guard (by rfl) ?_; dsimp only)); refine box_event ?hg (N := 10) ?hd (cs := #[.int .u8 0, .slice none 0 0, .slice none 0 0, .int .i64 0]) (t := 25) ?hr ?_; (case hd => rfl); (case hg => rfl); (case hr => first | (go_simp; done) | (go_simp; rfl)); intro gb155 hg w64 hbox hb; have n0_ := Aside0.mk (Kd.R_below (kr HO_3) hb); have n1_ := Aside0.mk (Kd.R_below (kr HO_118001) hb); have n2_ := Aside0.mk (Kd.R_below (kr HO_118002) hb); have n3_ := Aside0.mk (Kd.R_below (kr HO_133001) hb); have n4_ := Aside0.mk (Kd.R_below (kr HO_133002) hb); have n5_ := Aside0.mk (Kd.R_below (kr HO148) hb); have n6_ := Aside0.mk (Kd.R_below (kr HO151) hb); have n7_ := Aside0.mk (blk_below (g := gb117) (o := .cells #[.int .u8 t107, .slice Ao14 t108.length co14, .slice Ao15 t111.length co15, .int .i64 t114] 25 (0, 0)) (bk BK117) hb); have n8_ := Aside0.mk (blk_below (g := gb132) (o := .cells #[.int .u8 t122, .slice Ao23 t123.length co23, .slice Ao24 t126.length co24, .int .i64 t129] 25 (0, 0)) (bk BK132) hb); have n9_ := Aside0.mk (Kd.C_below (by repeat (first | (with_reducible exact HR144.out) | (with_reducible refine Kd.C_alloc ?_ _) | (with_reducible refine Kd.C_drewN ?_ _) | (with_reducible refine Kd.C_drew ?_) | exact HR144.out)) hb); have n10_ := Aside0.mk (below_step (bl2 HB GE117 GE132) hb); have n11_ := Aside0.mk (hbox); have n12_ := Aside0.mk ((by rw [hg]; exact (below_size (bl2 HB GE117 GE132)) : w.heap.size ≤ gb155)); have n13_ := Aside0.mk ((by rw [hg]; exact (below_size (bl2 HB GE117 GE132)) : w.heap.size ≤ gb155)); have n14_ := Aside0.mk ((by rw [hg]; exact Nat.ne_of_lt (blk_lt (g := gb117) (o := .cells #[.int .u8 t107, .slice Ao14 t108.length co14, .slice Ao15 t111.length co15, .int .i64 t114] 25 (0, 0)) (bk BK117)) : gb117 ≠ gb155)); have n15_ := Aside0.mk ((by rw [hg]; exact Nat.ne_of_gt (blk_lt (g := gb117) (o := .cells #[.int .u8 t107, .slice Ao14 t108.length co14, .slice Ao15 t111.length co15, .int .i64 t114] 25 (0, 0)) (bk BK117)) : gb155 ≠ gb117)); have n16_ := Aside0.mk ((by rw [hg]; exact Nat.ne_of_lt (blk_lt (g := gb132) (o := .cells #[.int .u8 t122, .slice Ao23 t123.length co23, .slice Ao24 t126.length co24, .int .i64 t129] 25 (0, 0)) (bk BK132)) : gb132 ≠ gb155)); have n17_ := Aside0.mk ((by rw [hg]; exact Nat.ne_of_gt (blk_lt (g := gb132) (o := .cells #[.int .u8 t122, .slice Ao23 t123.length co23, .slice Ao24 t126.length co24, .int .i64 t129] 25 (0, 0)) (bk BK132)) : gb155 ≠ gb132)); clear HO_3; clear HO_118001; clear HO_118002; clear HO_133001; clear HO_133002; clear HO148; clear HO151; clear BK117; clear BK132; clear HR144; clear HB; have HO_3 := n0_; have HO_118001 := n1_; have HO_118002 := n2_; have HO_133001 := n3_; have HO_133002 := n4_; have HO148 := n5_; have HO151 := n6_; have BK117 := n7_; have BK132 := n8_; have HR144 := n9_; have HB := n10_; have BK155 := n11_; have GW155 := n12_; have GE155 := n13_; have NB117_155 := n14_; have NB155_117 := n15_; have NB132_155 := n16_; have NB155_132 := n17_; clear n0_ n1_ n2_ n3_ n4_ n5_ n6_ n7_ n8_ n9_ n10_ n11_ n12_ n13_ n14_ n15_ n16_ n17_; clear hb hbox hg; have hnb65 := NB155_117.out; have hnc65 := NB117_155.out; have hnb66 := NB155_132.out; have hnc66 := NB132_155.out; have hcz67_0 : w64.cell? ⟨gb155, 0, none⟩ = some (.int .u8 0) := (blk_cell BK155.out 0).trans rfl; have hcz67_1 : w64.cell? ⟨gb155, 1, none⟩ = some (.slice none 0 0) := (blk_cell BK155.out 1).trans rfl; have hcz67_2 : w64.cell? ⟨gb155, 2, none⟩ = some (.slice none 0 0) := (blk_cell BK155.out 2).trans rfl; have hcz67_3 : w64.cell? ⟨gb155, 3, none⟩ = some (.int .i64 0) := (blk_cell BK155.out 3).trans rfl; have hfz67_0 := blk_frozen BK155.out 0; have hfz67_1 := blk_frozen BK155.out 1; have hfz67_2 := blk_frozen BK155.out 2; have hfz67_3 := blk_frozen BK155.out 3; obtain ⟨Ao68, co68, eo68⟩ := Kd.R_slice HO148.out; subst eo68; obtain ⟨Ao69, co69, eo69⟩ := Kd.R_slice HO151.out; subst eo69))
          go_loopg [13] kj7 (fun kq v13 w' => ∃ (x3_2 : List Int) (x13_2 : Int), v13 = .int .i64 x13_2 ∧ Aside0 (vouchlaw21_CodeReads.l0 kq l0 x3_2 x13_2 t107 t108 t111 t114 t145 t146 t149 t152 = some r) ∧ Aside0 (kq ≤ kj7) ∧ Aside0 (Kd.R (Kd.int .u8) 5 w' w.heap.size (fun _ => True) (.slice Ao18 y104.length co18) x3_2) ∧ Aside0 (Kd.R Kd.string 9 w' w.heap.size (fun k_ => some k_ ≠ ((.slice Ao23 t123.length co23) : Value).ownBlock ∧ some k_ ≠ ((.slice Ao68 t146.length co68) : Value).ownBlock) (.slice Ao14 t108.length co14) t108) ∧ Aside0 (Kd.R k41 41 w' w.heap.size (fun k_ => some k_ ≠ ((.slice Ao24 t126.length co24) : Value).ownBlock ∧ some k_ ≠ ((.slice Ao69 t149.length co69) : Value).ownBlock) (.slice Ao15 t111.length co15) t111) ∧ Aside0 (Kd.R Kd.string 9 w' w.heap.size (fun k_ => some k_ ≠ ((.slice Ao14 t108.length co14) : Value).ownBlock ∧ some k_ ≠ ((.slice Ao68 t146.length co68) : Value).ownBlock) (.slice Ao23 t123.length co23) t139) ∧ Aside0 (Kd.R k41 41 w' w.heap.size (fun k_ => some k_ ≠ ((.slice Ao15 t111.length co15) : Value).ownBlock ∧ some k_ ≠ ((.slice Ao69 t149.length co69) : Value).ownBlock) (.slice Ao24 t126.length co24) t140) ∧ Aside0 (Kd.R Kd.string 9 w' w.heap.size (fun k_ => some k_ ≠ ((.slice Ao14 t108.length co14) : Value).ownBlock ∧ some k_ ≠ ((.slice Ao23 t123.length co23) : Value).ownBlock) (.slice Ao68 t146.length co68) t146) ∧ Aside0 (Kd.R k41 41 w' w.heap.size (fun k_ => some k_ ≠ ((.slice Ao15 t111.length co15) : Value).ownBlock ∧ some k_ ≠ ((.slice Ao24 t126.length co24) : Value).ownBlock) (.slice Ao69 t149.length co69) t149) ∧ Aside0 (w'.heap[gb117]? = some (.cells #[.int .u8 t107, (.slice Ao14 t108.length co14), (.slice Ao15 t111.length co15), .int .i64 t114] 25 (0, 0))) ∧ Aside0 (w'.heap[gb132]? = some (.cells #[.int .u8 t122, (.slice Ao23 t123.length co23), (.slice Ao24 t126.length co24), .int .i64 t129] 25 (0, 0))) ∧ Aside0 (w'.heap[gb155]? = some (.cells #[.int .u8 t145, (.slice Ao68 t146.length co68), (.slice Ao69 t149.length co69), .int .i64 t152] 25 (0, 0))) ∧ Aside0 (Below w.heap.size w w'))
          case atStart => exact ⟨(y104), (0), (by first | rfl | (simp; done) | (simp [*]; done)), H', ⟨Nat.le_refl _⟩, ⟨by (with_reducible repeat (first | apply Kd.R_alloc | apply Kd.R_drewN | apply Kd.R_drew)); exact Kd.R_mono (Kd.R_far (p := ⟨gb155, 3, none⟩) (Kd.R_far (p := ⟨gb155, 2, none⟩) (Kd.R_far (p := ⟨gb155, 1, none⟩) (Kd.R_far (p := ⟨gb155, 0, none⟩) (Kd.R_types HO_3.out BK155.out (by decide)) (fun _ hk => hk.2) (.int .u8 t145)) (fun _ hk => hk.2) (.slice Ao68 t146.length co68)) (fun _ hk => hk.2) (.slice Ao69 t149.length co69)) (fun _ hk => hk.2) (.int .i64 t152)) (fun _ hk => trivial)⟩, ⟨by (with_reducible repeat (first | apply Kd.R_alloc | apply Kd.R_drewN | apply Kd.R_drew)); exact Kd.R_mono (Kd.R_far (p := ⟨gb155, 3, none⟩) (Kd.R_far (p := ⟨gb155, 2, none⟩) (Kd.R_far (p := ⟨gb155, 1, none⟩) (Kd.R_far (p := ⟨gb155, 0, none⟩) (Kd.R_types HO_118001.out BK155.out (by decide)) (fun _ hk => hk.2) (.int .u8 t145)) (fun _ hk => hk.2) (.slice Ao68 t146.length co68)) (fun _ hk => hk.2) (.slice Ao69 t149.length co69)) (fun _ hk => hk.2) (.int .i64 t152)) (fun _ hk => ⟨hk.1.1, hk.1.2⟩)⟩, ⟨by (with_reducible repeat (first | apply Kd.R_alloc | apply Kd.R_drewN | apply Kd.R_drew)); exact Kd.R_mono (Kd.R_far (p := ⟨gb155, 3, none⟩) (Kd.R_far (p := ⟨gb155, 2, none⟩) (Kd.R_far (p := ⟨gb155, 1, none⟩) (Kd.R_far (p := ⟨gb155, 0, none⟩) (Kd.R_types HO_118002.out BK155.out (by decide)) (fun _ hk => hk.2) (.int .u8 t145)) (fun _ hk => hk.2) (.slice Ao68 t146.length co68)) (fun _ hk => hk.2) (.slice Ao69 t149.length co69)) (fun _ hk => hk.2) (.int .i64 t152)) (fun _ hk => ⟨hk.1.1, hk.1.2⟩)⟩, ⟨by (with_reducible repeat (first | apply Kd.R_alloc | apply Kd.R_drewN | apply Kd.R_drew)); exact Kd.R_mono (Kd.R_far (p := ⟨gb155, 3, none⟩) (Kd.R_far (p := ⟨gb155, 2, none⟩) (Kd.R_far (p := ⟨gb155, 1, none⟩) (Kd.R_far (p := ⟨gb155, 0, none⟩) (Kd.R_types HO_133001.out BK155.out (by decide)) (fun _ hk => hk.2) (.int .u8 t145)) (fun _ hk => hk.2) (.slice Ao68 t146.length co68)) (fun _ hk => hk.2) (.slice Ao69 t149.length co69)) (fun _ hk => hk.2) (.int .i64 t152)) (fun _ hk => ⟨hk.1.1, hk.1.2⟩)⟩, ⟨by (with_reducible repeat (first | apply Kd.R_alloc | apply Kd.R_drewN | apply Kd.R_drew)); exact Kd.R_mono (Kd.R_far (p := ⟨gb155, 3, none⟩) (Kd.R_far (p := ⟨gb155, 2, none⟩) (Kd.R_far (p := ⟨gb155, 1, none⟩) (Kd.R_far (p := ⟨gb155, 0, none⟩) (Kd.R_types HO_133002.out BK155.out (by decide)) (fun _ hk => hk.2) (.int .u8 t145)) (fun _ hk => hk.2) (.slice Ao68 t146.length co68)) (fun _ hk => hk.2) (.slice Ao69 t149.length co69)) (fun _ hk => hk.2) (.int .i64 t152)) (fun _ hk => ⟨hk.1.1, hk.1.2⟩)⟩, ⟨by (with_reducible repeat (first | apply Kd.R_alloc | apply Kd.R_drewN | apply Kd.R_drew)); exact Kd.R_mono (Kd.R_far (p := ⟨gb155, 3, none⟩) (Kd.R_far (p := ⟨gb155, 2, none⟩) (Kd.R_far (p := ⟨gb155, 1, none⟩) (Kd.R_far (p := ⟨gb155, 0, none⟩) (Kd.R_types HO148.out BK155.out (by decide)) (fun _ hk => hk.2) (.int .u8 t145)) (fun _ hk => hk.2) (.slice Ao68 t146.length co68)) (fun _ hk => hk.2) (.slice Ao69 t149.length co69)) (fun _ hk => hk.2) (.int .i64 t152)) (fun _ hk => ⟨hk.1.1.2, hk.1.2⟩)⟩, ⟨by (with_reducible repeat (first | apply Kd.R_alloc | apply Kd.R_drewN | apply Kd.R_drew)); exact Kd.R_mono (Kd.R_far (p := ⟨gb155, 3, none⟩) (Kd.R_far (p := ⟨gb155, 2, none⟩) (Kd.R_far (p := ⟨gb155, 1, none⟩) (Kd.R_far (p := ⟨gb155, 0, none⟩) (Kd.R_types HO151.out BK155.out (by decide)) (fun _ hk => hk.2) (.int .u8 t145)) (fun _ hk => hk.2) (.slice Ao68 t146.length co68)) (fun _ hk => hk.2) (.slice Ao69 t149.length co69)) (fun _ hk => hk.2) (.int .i64 t152)) (fun _ hk => ⟨hk.1.1.2, hk.1.2⟩)⟩, ⟨by (with_reducible repeat (first | refine blk_drewN ?_ _ | refine blk_drew ?_ | refine blk_alloc ?_ _)); refine blk_far ?_ NB117_155.out _; (with_reducible repeat (first | refine blk_drewN ?_ _ | refine blk_drew ?_ | refine blk_alloc ?_ _)); refine blk_far ?_ NB117_155.out _; (with_reducible repeat (first | refine blk_drewN ?_ _ | refine blk_drew ?_ | refine blk_alloc ?_ _)); refine blk_far ?_ NB117_155.out _; (with_reducible repeat (first | refine blk_drewN ?_ _ | refine blk_drew ?_ | refine blk_alloc ?_ _)); refine blk_far ?_ NB117_155.out _; (with_reducible repeat (first | refine blk_drewN ?_ _ | refine blk_drew ?_ | refine blk_alloc ?_ _)); exact BK117.out⟩, ⟨by (with_reducible repeat (first | refine blk_drewN ?_ _ | refine blk_drew ?_ | refine blk_alloc ?_ _)); refine blk_far ?_ NB132_155.out _; (with_reducible repeat (first | refine blk_drewN ?_ _ | refine blk_drew ?_ | refine blk_alloc ?_ _)); refine blk_far ?_ NB132_155.out _; (with_reducible repeat (first | refine blk_drewN ?_ _ | refine blk_drew ?_ | refine blk_alloc ?_ _)); refine blk_far ?_ NB132_155.out _; (with_reducible repeat (first | refine blk_drewN ?_ _ | refine blk_drew ?_ | refine blk_alloc ?_ _)); refine blk_far ?_ NB132_155.out _; (with_reducible repeat (first | refine blk_drewN ?_ _ | refine blk_drew ?_ | refine blk_alloc ?_ _)); exact BK132.out⟩, ⟨by (with_reducible repeat (first | refine blk_drewN ?_ _ | refine blk_drew ?_ | refine blk_alloc ?_ _)); refine blk_put (cs := #[.int .u8 t145, .slice Ao68 t146.length co68, .slice Ao69 t149.length co69, .int .i64 0]) ?_ 3 _ rfl; (with_reducible repeat (first | refine blk_drewN ?_ _ | refine blk_drew ?_ | refine blk_alloc ?_ _)); refine blk_put (cs := #[.int .u8 t145, .slice Ao68 t146.length co68, .slice none 0 0, .int .i64 0]) ?_ 2 _ rfl; (with_reducible repeat (first | refine blk_drewN ?_ _ | refine blk_drew ?_ | refine blk_alloc ?_ _)); refine blk_put (cs := #[.int .u8 t145, .slice none 0 0, .slice none 0 0, .int .i64 0]) ?_ 1 _ rfl; (with_reducible repeat (first | refine blk_drewN ?_ _ | refine blk_drew ?_ | refine blk_alloc ?_ _)); refine blk_put (cs := #[.int .u8 0, .slice none 0 0, .slice none 0 0, .int .i64 0]) ?_ 0 _ rfl; (with_reducible repeat (first | refine blk_drewN ?_ _ | refine blk_drew ?_ | refine blk_alloc ?_ _)); exact BK155.out⟩, ⟨by repeat (first | (with_reducible first | exact HB.out | apply below_alloc | apply pw_below_drewN | apply below_drew1 | refine below_set ?_ GE117.out | refine below_set ?_ GE132.out | refine below_set ?_ GE155.out) | exact HB.out)⟩⟩
          case round =>
           clear H'
           try clear c1
           try clear c2
           try clear p2
           try clear c5
           try clear c6
           try clear q6
           try clear c12
           try clear c20
           try clear c21
           try clear c26
           try clear c27
           try clear c27b0
           try clear c27b1
           try clear c54
           try clear c56
           try clear c56b0
           try clear c56b1
           try clear c57
           try clear c57b0
           try clear c57b1
           try clear c59
           try clear q62
           try clear c65
           try clear c66
           try clear hcz60_0
           try clear hcz60_1
           try clear hcz60_2
           try clear hcz60_3
           try clear hcz67_0
           try clear hcz67_1
           try clear hcz67_2
           try clear hcz67_3
           try clear hfz60_0
           try clear hfz60_1
           try clear hfz60_2
           try clear hfz60_3
           try clear hfz67_0
           try clear hfz67_1
           try clear hfz67_2
           try clear hfz67_3
           try clear p2
           try clear q62
           obtain ⟨x3_2, x13_2, rfl, HA, HK2, HO_3, HO_118001, HO_118002, HO_133001, HO_133002, HO_156001, HO_156002, BK117, BK132, BK155, HB⟩ := hrel
           have hl3_2 := (Kd.R_reads' HO_3.out).1
           rw [hl3_2] at HO_3
           (try simp only [hl3_2])
           (try simp only [hl3_2] at BK117)
           (try simp only [hl3_2] at BK132)
           (try simp only [hl3_2] at BK155)
           (try simp only [hl3_2] at HO_118001)
           (try simp only [hl3_2] at HO_118002)
           (try simp only [hl3_2] at HO_133001)
           (try simp only [hl3_2] at HO_133002)
           (try simp only [hl3_2] at HO_156001)
           (try simp only [hl3_2] at HO_156002)
           have hl133001_2 := (Kd.R_reads' HO_133001.out).1
           rw [hl133001_2] at HO_133001
           (try simp only [hl133001_2])
           (try simp only [hl133001_2] at BK117)
           (try simp only [hl133001_2] at BK132)
           (try simp only [hl133001_2] at BK155)
           (try simp only [hl133001_2] at HO_3)
           (try simp only [hl133001_2] at HO_118001)
           (try simp only [hl133001_2] at HO_118002)
           (try simp only [hl133001_2] at HO_133002)
           (try simp only [hl133001_2] at HO_156001)
           (try simp only [hl133001_2] at HO_156002)
           have hl133002_2 := (Kd.R_reads' HO_133002.out).1
           rw [hl133002_2] at HO_133002
           (try simp only [hl133002_2])
           (try simp only [hl133002_2] at BK117)
           (try simp only [hl133002_2] at BK132)
           (try simp only [hl133002_2] at BK155)
           (try simp only [hl133002_2] at HO_3)
           (try simp only [hl133002_2] at HO_118001)
           (try simp only [hl133002_2] at HO_118002)
           (try simp only [hl133002_2] at HO_133001)
           (try simp only [hl133002_2] at HO_156001)
           (try simp only [hl133002_2] at HO_156002)
           cases gk with
           | zero => exact absurd HA.out (by simp [vouchlaw21_CodeReads.l0])
           | succ k2 =>
            have H := HA.out
            clear HA
            simp only [vouchlaw21_CodeReads.l0] at H
            by_cases c70 : x13_2 < (l0.length : Int)
            ·rw [if_pos c70] at H
             have c70b0 : decide (x13_2 < (l0.length : Int)) = true := decide_eq_true c70
             clear c70
             by_cases c71 : 0 ≤ x13_2
             ·rw [if_pos c71] at H
              have c71b0 : decide (0 ≤ x13_2) = true := decide_eq_true c71
              clear c71
              by_cases c72 : x13_2 < (x3_2.length : Int)
              ·rw [if_pos c72] at H
               have c72b0 : decide (x13_2 < (x3_2.length : Int)) = true := decide_eq_true c72
               clear c72
               obtain ⟨y156, hy156⟩ : ∃ y_ : List Int, y_ = (x3_2.set (x13_2 : Int).toNat 99) := ⟨_, rfl⟩
               replace H : (vouchlaw21_CodeReads.l0 k2 l0 y156 (wrap64 (x13_2 + 1)) t107 t108 t111 t114 t145 t146 t149 t152) = some r := by first | (rw [hy156]; with_reducible exact H) | (have H2_ := (Option.bind_some _ _).symm.trans H; rw [hy156]; with_reducible exact H2_) | (have H2_ := (Option.bind_some _ _).symm.trans H; with_reducible exact H2_) | with_reducible exact H | (rw [hy156]; exact H) | exact H
               have Ny156 := Aside0.mk hy156
               clear hy156
               have H' := Aside0.mk H
               clear H
               have p73 : 0 ≤ (x13_2 : Int) := of_decide_eq_true (by first | (with_reducible assumption) | assumption)
               have q73 : (x13_2 : Int) < ((x3_2.length : Int) : Int) := of_decide_eq_true (by first | (with_reducible assumption) | assumption)
               obtain ⟨go73, co73, eo73, gb73, gl73, cl73, HG73⟩ := Kd.R_form HO_3.out (by omega)
               (first | cases eo73 | (injection eo73 with ea_ en_ ec_; (first | subst ea_ | (injection ea_ with ea_; subst ea_)); subst ec_; clear en_))
               have GB73 := Aside0.mk gb73
               have GG73 := Aside0.mk HG73
               clear gb73 gl73 HG73
               obtain ⟨hx73_0, hf73_0⟩ := Kd.R_celln 0 HO_3.out (x13_2 : Int) p73 q73
               replace p73 := eq_true p73
               replace q73 := eq_true q73
               have HP74 := Kd.R_putg HO_3.out (x13_2 : Int) 99
               go_wp2_with (first | ((with_reducible refine gate_store (t := 5) (p := 86) rfl ?_); refine store_event (t := 5) (p := 86) (v := ?vo_w75) (w1 := (wr.setCell ⟨go73, (x13_2 : Int).toNat, none⟩ (.int .u8 99))) ?hg ?ho ?hn ?hr ?_; (case ho => rfl); (case hg => rfl); (case hn => rfl); (case hr => first | (go_simp; done) | (go_simp; rfl)); intro w75 hw; have hg : wr.grownBy w75 (some go73) := (by rw [hw]; exact HP74.2); have hp_ : Kd.R (Kd.int .u8) 5 w75 w.heap.size (fun _ => True) (.slice (some ⟨go73, 0, none⟩) x3_2.length co18) y156 := (by rw [hw, Ny156.out]; exact HP74.1); clear HP74; have n0_ := Aside0.mk (hp_); have n1_ := Aside0.mk (Kd.R_over' (v := (.slice (some ⟨go73, 0, none⟩) x3_2.length co18)) (kr HO_118001) (Kd.R_typed HO_3.out) (by decide) hg); have n2_ := Aside0.mk (Kd.R_over' (v := (.slice (some ⟨go73, 0, none⟩) x3_2.length co18)) (kr HO_118002) (Kd.R_typed HO_3.out) (by decide) hg); have n3_ := Aside0.mk (Kd.R_over' (v := (.slice (some ⟨go73, 0, none⟩) x3_2.length co18)) (kr HO_133001) (Kd.R_typed HO_3.out) (by decide) hg); have n4_ := Aside0.mk (Kd.R_over' (v := (.slice (some ⟨go73, 0, none⟩) x3_2.length co18)) (kr HO_133002) (Kd.R_typed HO_3.out) (by decide) hg); have n5_ := Aside0.mk (Kd.R_over' (v := (.slice (some ⟨go73, 0, none⟩) x3_2.length co18)) (kr HO_156001) (Kd.R_typed HO_3.out) (by decide) hg); have n6_ := Aside0.mk (Kd.R_over' (v := (.slice (some ⟨go73, 0, none⟩) x3_2.length co18)) (kr HO_156002) (Kd.R_typed HO_3.out) (by decide) hg); have n7_ := Aside0.mk (blk_grown (g := gb117) (o := .cells #[.int .u8 t107, .slice Ao14 t108.length co14, .slice Ao15 t111.length co15, .int .i64 t114] 25 (0, 0)) (bk BK117) hg (Kd.R_ne HO_3.out BK117.out (by decide))); have n8_ := Aside0.mk (blk_grown (g := gb132) (o := .cells #[.int .u8 t122, .slice Ao23 t139.length co23, .slice Ao24 t140.length co24, .int .i64 t129] 25 (0, 0)) (bk BK132) hg (Kd.R_ne HO_3.out BK132.out (by decide))); have n9_ := Aside0.mk (blk_grown (g := gb155) (o := .cells #[.int .u8 t145, .slice Ao68 t146.length co68, .slice Ao69 t149.length co69, .int .i64 t152] 25 (0, 0)) (bk BK155) hg (Kd.R_ne HO_3.out BK155.out (by decide))); have n10_ := Aside0.mk ((by rw [hw]; exact below_set (HB.out) GB73.out : Below w.heap.size w w75)); clear HO_3; clear HO_118001; clear HO_118002; clear HO_133001; clear HO_133002; clear HO_156001; clear HO_156002; clear BK117; clear BK132; clear BK155; clear HB; have HO_3 := n0_; have HO_118001 := n1_; have HO_118002 := n2_; have HO_133001 := n3_; have HO_133002 := n4_; have HO_156001 := n5_; have HO_156002 := n6_; have BK117 := n7_; have BK132 := n8_; have BK155 := n9_; have HB := n10_; clear n0_ n1_ n2_ n3_ n4_ n5_ n6_ n7_ n8_ n9_ n10_; clear hg hw hp_))
               (try simp only [← hl3_2, ← hl133001_2, ← hl133002_2])
               go_roundg k2
               case measure => have := HJ7.out; have := HK2.out; omega
               case rel => exact ⟨(y156), (wrap64 (x13_2 + 1)), (by first | rfl | (simp; done) | (simp [*]; done)), H', ⟨by have := HJ7.out; have := HK2.out; omega⟩, ⟨by (try simp only [hl3_2]); (try simp only [hl133001_2]); (try simp only [hl133002_2]); (with_reducible repeat (first | apply Kd.R_alloc | apply Kd.R_drewN | apply Kd.R_drew)); exact HO_3.out⟩, ⟨by (try simp only [hl3_2]); (try simp only [hl133001_2]); (try simp only [hl133002_2]); (with_reducible repeat (first | apply Kd.R_alloc | apply Kd.R_drewN | apply Kd.R_drew)); exact HO_118001.out⟩, ⟨by (try simp only [hl3_2]); (try simp only [hl133001_2]); (try simp only [hl133002_2]); (with_reducible repeat (first | apply Kd.R_alloc | apply Kd.R_drewN | apply Kd.R_drew)); exact HO_118002.out⟩, ⟨by (try simp only [hl3_2]); (try simp only [hl133001_2]); (try simp only [hl133002_2]); (with_reducible repeat (first | apply Kd.R_alloc | apply Kd.R_drewN | apply Kd.R_drew)); exact HO_133001.out⟩, ⟨by (try simp only [hl3_2]); (try simp only [hl133001_2]); (try simp only [hl133002_2]); (with_reducible repeat (first | apply Kd.R_alloc | apply Kd.R_drewN | apply Kd.R_drew)); exact HO_133002.out⟩, ⟨by (try simp only [hl3_2]); (try simp only [hl133001_2]); (try simp only [hl133002_2]); (with_reducible repeat (first | apply Kd.R_alloc | apply Kd.R_drewN | apply Kd.R_drew)); exact HO_156001.out⟩, ⟨by (try simp only [hl3_2]); (try simp only [hl133001_2]); (try simp only [hl133002_2]); (with_reducible repeat (first | apply Kd.R_alloc | apply Kd.R_drewN | apply Kd.R_drew)); exact HO_156002.out⟩, ⟨by (try simp only [hl3_2]); (try simp only [hl133001_2]); (try simp only [hl133002_2]); (with_reducible repeat (first | refine blk_drewN ?_ _ | refine blk_drew ?_ | refine blk_alloc ?_ _)); exact BK117.out⟩, ⟨by (try simp only [hl3_2]); (try simp only [hl133001_2]); (try simp only [hl133002_2]); (with_reducible repeat (first | refine blk_drewN ?_ _ | refine blk_drew ?_ | refine blk_alloc ?_ _)); exact BK132.out⟩, ⟨by (try simp only [hl3_2]); (try simp only [hl133001_2]); (try simp only [hl133002_2]); (with_reducible repeat (first | refine blk_drewN ?_ _ | refine blk_drew ?_ | refine blk_alloc ?_ _)); exact BK155.out⟩, ⟨by repeat (first | (with_reducible first | exact HB.out | apply below_alloc | apply pw_below_drewN | apply below_drew1 | refine below_set ?_ GE117.out | refine below_set ?_ GE132.out | refine below_set ?_ GE155.out) | exact HB.out)⟩⟩
              ·rw [if_neg c72] at H
               exact absurd H (by simp)
             ·rw [if_neg c71] at H
              exact absurd H (by simp)
            ·rw [if_neg c70] at H
             have c70b0 : decide (x13_2 < (l0.length : Int)) = false := decide_eq_false c70
             clear c70
             replace H := Option.bind_eq_some_iff.mp H
             obtain ⟨t157, A760, H⟩ := H
             replace H : (if t157 = true then ((vouchlaw21_works.f k2).bind fun t158 => (some t158)) else (some false)) = some r := H
             have A76 := Aside0.mk A760
             clear A760
             by_cases c77 : t157 = true
             ·subst c77
              have H1 : ((vouchlaw21_works.f k2).bind fun t158 => (some t158)) = some r := by rw [if_pos rfl] at H; exact H
              clear H
              have H := H1
              clear H1
              replace H := Option.bind_eq_some_iff.mp H
              obtain ⟨t158, A780, H⟩ := H
              replace H : (some t158) = some r := H
              have A78 := Aside0.mk A780
              clear A780
              obtain rfl := Option.some.inj H
              have hnb79 := NB155_117.out
              have hnc79 := NB117_155.out
              have hnb80 := NB155_132.out
              have hnc80 := NB132_155.out
              have hcz81_0 : wr.cell? ⟨gb155, 0, none⟩ = some (.int .u8 t145) := (blk_cell BK155.out 0).trans rfl
              have hcz81_1 : wr.cell? ⟨gb155, 1, none⟩ = some (.slice Ao68 t146.length co68) := (blk_cell BK155.out 1).trans rfl
              have hcz81_2 : wr.cell? ⟨gb155, 2, none⟩ = some (.slice Ao69 t149.length co69) := (blk_cell BK155.out 2).trans rfl
              have hcz81_3 : wr.cell? ⟨gb155, 3, none⟩ = some (.int .i64 t152) := (blk_cell BK155.out 3).trans rfl
              have hfz81_0 := blk_frozen BK155.out 0
              have hfz81_1 := blk_frozen BK155.out 1
              have hfz81_2 := blk_frozen BK155.out 2
              have hfz81_3 := blk_frozen BK155.out 3
              have hnb82 := NB117_132.out
              have hnc82 := NB132_117.out
              have hcz83_0 : wr.cell? ⟨gb117, 0, none⟩ = some (.int .u8 t107) := (blk_cell BK117.out 0).trans rfl
              have hcz83_1 : wr.cell? ⟨gb117, 1, none⟩ = some (.slice Ao14 t108.length co14) := (blk_cell BK117.out 1).trans rfl
              have hcz83_2 : wr.cell? ⟨gb117, 2, none⟩ = some (.slice Ao15 t111.length co15) := (blk_cell BK117.out 2).trans rfl
              have hcz83_3 : wr.cell? ⟨gb117, 3, none⟩ = some (.int .i64 t114) := (blk_cell BK117.out 3).trans rfl
              have hfz83_0 := blk_frozen BK117.out 0
              have hfz83_1 := blk_frozen BK117.out 1
              have hfz83_2 := blk_frozen BK117.out 2
              have hfz83_3 := blk_frozen BK117.out 3
              go_wp2_with (first | ((with_reducible refine gate_callee (f := 12) rfl ?_); refine goesL_ (some 89) rfl rfl Try.func12 (by kernel_rfl) rfl #[.agg #[.int .u8 t145, .slice Ao68 t146.length co68, .slice Ao69 t149.length co69, .int .i64 t152], .agg #[.int .u8 t107, .slice Ao14 t108.length co14, .slice Ao15 t111.length co15, .int .i64 t114]] rfl (by (try simp only [List.map_toArray, List.map_cons, List.map_nil]); first | done | rfl | (simp only [List.length_drop, List.length_take]; rfl)) ?_; (with_reducible refine (vouchkit_SameProgram.calls k2 t145 _ _ t146 _ _ t149 t152 t107 _ _ t108 _ _ t111 t114 true _ ?side1 ?side2 ?side3 ?side4 ?side5 ?side6 ?side7 ?side8 A76.out).mono ?_); (case side1 => repeat (first | exact (Kd.R_reads' HO_156001.out).2.2 | (with_reducible refine Kd.C_alloc ?_ _) | (with_reducible refine Kd.C_drewN ?_ _) | (with_reducible refine Kd.C_drew ?_))); (case side2 => exact (Kd.R_reads' HO_156001.out).2.1); (case side3 => repeat (first | exact (Kd.R_reads' HO_156002.out).2.2 | (with_reducible refine Kd.C_alloc ?_ _) | (with_reducible refine Kd.C_drewN ?_ _) | (with_reducible refine Kd.C_drew ?_))); (case side4 => exact (Kd.R_reads' HO_156002.out).2.1); (case side5 => repeat (first | exact (Kd.R_reads' HO_118001.out).2.2 | (with_reducible refine Kd.C_alloc ?_ _) | (with_reducible refine Kd.C_drewN ?_ _) | (with_reducible refine Kd.C_drew ?_))); (case side6 => exact (Kd.R_reads' HO_118001.out).2.1); (case side7 => repeat (first | exact (Kd.R_reads' HO_118002.out).2.2 | (with_reducible refine Kd.C_alloc ?_ _) | (with_reducible refine Kd.C_drewN ?_ _) | (with_reducible refine Kd.C_drew ?_))); (case side8 => exact (Kd.R_reads' HO_118002.out).2.1); rintro e w84 ⟨rfl, hb⟩; refine ⟨_, rfl, ?_⟩; have n0_ := Aside0.mk (Kd.R_below (kr HO_3) hb); have n1_ := Aside0.mk (Kd.R_below (kr HO_118001) hb); have n2_ := Aside0.mk (Kd.R_below (kr HO_118002) hb); have n3_ := Aside0.mk (Kd.R_below (kr HO_133001) hb); have n4_ := Aside0.mk (Kd.R_below (kr HO_133002) hb); have n5_ := Aside0.mk (Kd.R_below (kr HO_156001) hb); have n6_ := Aside0.mk (Kd.R_below (kr HO_156002) hb); have n7_ := Aside0.mk (blk_below (g := gb117) (o := .cells #[.int .u8 t107, .slice Ao14 t108.length co14, .slice Ao15 t111.length co15, .int .i64 t114] 25 (0, 0)) (bk BK117) hb); have n8_ := Aside0.mk (blk_below (g := gb132) (o := .cells #[.int .u8 t122, .slice Ao23 t139.length co23, .slice Ao24 t140.length co24, .int .i64 t129] 25 (0, 0)) (bk BK132) hb); have n9_ := Aside0.mk (blk_below (g := gb155) (o := .cells #[.int .u8 t145, .slice Ao68 t146.length co68, .slice Ao69 t149.length co69, .int .i64 t152] 25 (0, 0)) (bk BK155) hb); have n10_ := Aside0.mk (below_step (by repeat (first | (with_reducible first | exact HB.out | apply below_alloc | apply pw_below_drewN | apply below_drew1 | refine below_set ?_ GE117.out | refine below_set ?_ GE132.out | refine below_set ?_ GE155.out) | exact HB.out)) hb); clear HO_3; clear HO_118001; clear HO_118002; clear HO_133001; clear HO_133002; clear HO_156001; clear HO_156002; clear BK117; clear BK132; clear BK155; clear HB; have HO_3 := n0_; have HO_118001 := n1_; have HO_118002 := n2_; have HO_133001 := n3_; have HO_133002 := n4_; have HO_156001 := n5_; have HO_156002 := n6_; have BK117 := n7_; have BK132 := n8_; have BK155 := n9_; have HB := n10_; clear n0_ n1_ n2_ n3_ n4_ n5_ n6_ n7_ n8_ n9_ n10_; (try clear hb); (try clear hb2); (try clear hk); (try clear hi)) | (go_at_call 10; (with_reducible refine (vouchlaw21_works.calls k2  t158 _ A78.out).mono ?_); rintro e w85 ⟨rfl, hb⟩; have n0_ := Aside0.mk (Kd.R_below (kr HO_3) hb); have n1_ := Aside0.mk (Kd.R_below (kr HO_118001) hb); have n2_ := Aside0.mk (Kd.R_below (kr HO_118002) hb); have n3_ := Aside0.mk (Kd.R_below (kr HO_133001) hb); have n4_ := Aside0.mk (Kd.R_below (kr HO_133002) hb); have n5_ := Aside0.mk (Kd.R_below (kr HO_156001) hb); have n6_ := Aside0.mk (Kd.R_below (kr HO_156002) hb); have n7_ := Aside0.mk (blk_below (g := gb117) (o := .cells #[.int .u8 t107, .slice Ao14 t108.length co14, .slice Ao15 t111.length co15, .int .i64 t114] 25 (0, 0)) (bk BK117) hb); have n8_ := Aside0.mk (blk_below (g := gb132) (o := .cells #[.int .u8 t122, .slice Ao23 t139.length co23, .slice Ao24 t140.length co24, .int .i64 t129] 25 (0, 0)) (bk BK132) hb); have n9_ := Aside0.mk (blk_below (g := gb155) (o := .cells #[.int .u8 t145, .slice Ao68 t146.length co68, .slice Ao69 t149.length co69, .int .i64 t152] 25 (0, 0)) (bk BK155) hb); have n10_ := Aside0.mk (below_step (by repeat (first | (with_reducible first | exact HB.out | apply below_alloc | apply pw_below_drewN | apply below_drew1 | refine below_set ?_ GE117.out | refine below_set ?_ GE132.out | refine below_set ?_ GE155.out) | exact HB.out)) hb); clear HO_3; clear HO_118001; clear HO_118002; clear HO_133001; clear HO_133002; clear HO_156001; clear HO_156002; clear BK117; clear BK132; clear BK155; clear HB; have HO_3 := n0_; have HO_118001 := n1_; have HO_118002 := n2_; have HO_133001 := n3_; have HO_133002 := n4_; have HO_156001 := n5_; have HO_156002 := n6_; have BK117 := n7_; have BK132 := n8_; have BK155 := n9_; have HB := n10_; clear n0_ n1_ n2_ n3_ n4_ n5_ n6_ n7_ n8_ n9_ n10_; (try clear hb); (try clear hb2); (try clear hk); (try clear hi)))
              go_ret
              exact ⟨by first | rfl | (simp [errW_none, errW_some] <;> rfl) | (simp [*, errW_none, errW_some] <;> rfl), by repeat (first | (with_reducible first | exact HB.out | apply below_alloc | apply pw_below_drewN | apply below_drew1 | refine below_set ?_ GE117.out | refine below_set ?_ GE132.out | refine below_set ?_ GE155.out) | exact HB.out)⟩
             ·replace c77 := Bool.eq_false_iff.mpr c77
              subst c77
              have H1 : (some false) = some r := by rw [if_neg (show ¬ (false = true) by decide)] at H; exact H
              clear H
              have H := H1
              clear H1
              obtain rfl := Option.some.inj H
              have hnb86 := NB155_117.out
              have hnc86 := NB117_155.out
              have hnb87 := NB155_132.out
              have hnc87 := NB132_155.out
              have hcz88_0 : wr.cell? ⟨gb155, 0, none⟩ = some (.int .u8 t145) := (blk_cell BK155.out 0).trans rfl
              have hcz88_1 : wr.cell? ⟨gb155, 1, none⟩ = some (.slice Ao68 t146.length co68) := (blk_cell BK155.out 1).trans rfl
              have hcz88_2 : wr.cell? ⟨gb155, 2, none⟩ = some (.slice Ao69 t149.length co69) := (blk_cell BK155.out 2).trans rfl
              have hcz88_3 : wr.cell? ⟨gb155, 3, none⟩ = some (.int .i64 t152) := (blk_cell BK155.out 3).trans rfl
              have hfz88_0 := blk_frozen BK155.out 0
              have hfz88_1 := blk_frozen BK155.out 1
              have hfz88_2 := blk_frozen BK155.out 2
              have hfz88_3 := blk_frozen BK155.out 3
              have hnb89 := NB117_132.out
              have hnc89 := NB132_117.out
              have hcz90_0 : wr.cell? ⟨gb117, 0, none⟩ = some (.int .u8 t107) := (blk_cell BK117.out 0).trans rfl
              have hcz90_1 : wr.cell? ⟨gb117, 1, none⟩ = some (.slice Ao14 t108.length co14) := (blk_cell BK117.out 1).trans rfl
              have hcz90_2 : wr.cell? ⟨gb117, 2, none⟩ = some (.slice Ao15 t111.length co15) := (blk_cell BK117.out 2).trans rfl
              have hcz90_3 : wr.cell? ⟨gb117, 3, none⟩ = some (.int .i64 t114) := (blk_cell BK117.out 3).trans rfl
              have hfz90_0 := blk_frozen BK117.out 0
              have hfz90_1 := blk_frozen BK117.out 1
              have hfz90_2 := blk_frozen BK117.out 2
              have hfz90_3 := blk_frozen BK117.out 3
              go_wp2_with (first | ((with_reducible refine gate_callee (f := 12) rfl ?_); refine goesL_ (some 89) rfl rfl Try.func12 (by kernel_rfl) rfl #[.agg #[.int .u8 t145, .slice Ao68 t146.length co68, .slice Ao69 t149.length co69, .int .i64 t152], .agg #[.int .u8 t107, .slice Ao14 t108.length co14, .slice Ao15 t111.length co15, .int .i64 t114]] rfl (by (try simp only [List.map_toArray, List.map_cons, List.map_nil]); first | done | rfl | (simp only [List.length_drop, List.length_take]; rfl)) ?_; (with_reducible refine (vouchkit_SameProgram.calls k2 t145 _ _ t146 _ _ t149 t152 t107 _ _ t108 _ _ t111 t114 false _ ?side1 ?side2 ?side3 ?side4 ?side5 ?side6 ?side7 ?side8 A76.out).mono ?_); (case side1 => repeat (first | exact (Kd.R_reads' HO_156001.out).2.2 | (with_reducible refine Kd.C_alloc ?_ _) | (with_reducible refine Kd.C_drewN ?_ _) | (with_reducible refine Kd.C_drew ?_))); (case side2 => exact (Kd.R_reads' HO_156001.out).2.1); (case side3 => repeat (first | exact (Kd.R_reads' HO_156002.out).2.2 | (with_reducible refine Kd.C_alloc ?_ _) | (with_reducible refine Kd.C_drewN ?_ _) | (with_reducible refine Kd.C_drew ?_))); (case side4 => exact (Kd.R_reads' HO_156002.out).2.1); (case side5 => repeat (first | exact (Kd.R_reads' HO_118001.out).2.2 | (with_reducible refine Kd.C_alloc ?_ _) | (with_reducible refine Kd.C_drewN ?_ _) | (with_reducible refine Kd.C_drew ?_))); (case side6 => exact (Kd.R_reads' HO_118001.out).2.1); (case side7 => repeat (first | exact (Kd.R_reads' HO_118002.out).2.2 | (with_reducible refine Kd.C_alloc ?_ _) | (with_reducible refine Kd.C_drewN ?_ _) | (with_reducible refine Kd.C_drew ?_))); (case side8 => exact (Kd.R_reads' HO_118002.out).2.1); rintro e w91 ⟨rfl, hb⟩; refine ⟨_, rfl, ?_⟩; have n0_ := Aside0.mk (Kd.R_below (kr HO_3) hb); have n1_ := Aside0.mk (Kd.R_below (kr HO_118001) hb); have n2_ := Aside0.mk (Kd.R_below (kr HO_118002) hb); have n3_ := Aside0.mk (Kd.R_below (kr HO_133001) hb); have n4_ := Aside0.mk (Kd.R_below (kr HO_133002) hb); have n5_ := Aside0.mk (Kd.R_below (kr HO_156001) hb); have n6_ := Aside0.mk (Kd.R_below (kr HO_156002) hb); have n7_ := Aside0.mk (blk_below (g := gb117) (o := .cells #[.int .u8 t107, .slice Ao14 t108.length co14, .slice Ao15 t111.length co15, .int .i64 t114] 25 (0, 0)) (bk BK117) hb); have n8_ := Aside0.mk (blk_below (g := gb132) (o := .cells #[.int .u8 t122, .slice Ao23 t139.length co23, .slice Ao24 t140.length co24, .int .i64 t129] 25 (0, 0)) (bk BK132) hb); have n9_ := Aside0.mk (blk_below (g := gb155) (o := .cells #[.int .u8 t145, .slice Ao68 t146.length co68, .slice Ao69 t149.length co69, .int .i64 t152] 25 (0, 0)) (bk BK155) hb); have n10_ := Aside0.mk (below_step (by repeat (first | (with_reducible first | exact HB.out | apply below_alloc | apply pw_below_drewN | apply below_drew1 | refine below_set ?_ GE117.out | refine below_set ?_ GE132.out | refine below_set ?_ GE155.out) | exact HB.out)) hb); clear HO_3; clear HO_118001; clear HO_118002; clear HO_133001; clear HO_133002; clear HO_156001; clear HO_156002; clear BK117; clear BK132; clear BK155; clear HB; have HO_3 := n0_; have HO_118001 := n1_; have HO_118002 := n2_; have HO_133001 := n3_; have HO_133002 := n4_; have HO_156001 := n5_; have HO_156002 := n6_; have BK117 := n7_; have BK132 := n8_; have BK155 := n9_; have HB := n10_; clear n0_ n1_ n2_ n3_ n4_ n5_ n6_ n7_ n8_ n9_ n10_; (try clear hb); (try clear hb2); (try clear hk); (try clear hi)))
              go_ret
              exact ⟨by first | rfl | (simp [errW_none, errW_some] <;> rfl) | (simp [*, errW_none, errW_some] <;> rfl), by repeat (first | (with_reducible first | exact HB.out | apply below_alloc | apply pw_below_drewN | apply below_drew1 | refine below_set ?_ GE117.out | refine below_set ?_ GE132.out | refine below_set ?_ GE155.out) | exact HB.out)⟩
         ·rw [if_neg c57] at H
          exact absurd H (by simp)
        ·rw [if_neg c56] at H
         exact absurd H (by simp)
    ·rw [if_neg c6] at H
     exact absurd H (by simp)
   ·rw [if_neg c5] at H
    exact absurd H (by simp)
  ·rw [if_neg c3] at H
   exact absurd H (by simp)
 ·rw [if_neg c2] at H
  exact absurd H (by simp)

end Go.Proofs.Ytmhmappdohddeaa.H
