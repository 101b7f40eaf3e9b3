-- WRITTEN BY A PROGRAM OF THIS SESSION (hprint.py, compress.py), out of the translation. Lean checks it.
import Derived.Test.YtmhmappdohddeaaHx0
import Derived.Test.YtmhmappdohddeaaWStep
import Derived.Test.YtmhmappdohddeaaHvouchref21readerfail
import Derived.Test.YtmhmappdohddeaaHvouchref21readeroctet
import Derived.Test.YtmhmappdohddeaaHvouchref21readermust
import Derived.Test.YtmhmappdohddeaaHvouchref21readernumber
import Derived.Test.YtmhmappdohddeaaHvouchref21readercount
import Derived.Test.YtmhmappdohddeaaHvouchref21readertext
import Derived.Test.YtmhmappdohddeaaHvouchref21readerone
namespace Go.Proofs.Ytmhmappdohddeaa.H
open Go.RowKit Go.Proofs.YtmhmappdohddeaaW.PrintWords Go.Proofs.YtmhmappdohddeaaW.PrintLast Go.Proofs.YtmhmappdohddeaaW.PrintMore
attribute [local go_sem] max2_int min2_int max_two min_two max_three min_three max_four min_four   -- for this text's walks alone
set_option linter.unusedVariables false
set_option linter.unusedSimpArgs false

/-! ### vouchref21_Decode: function 19 -/
mutual
def vouchref21_Decode.j0 : Nat → List Int → Int → Bool → List Int → Int → Int → Int → Int → Int → Option (Int × List ByteArray × (List (S41)) × Int × Int × Int)
 | 0, _, _, _, _, _, _, _, _, _ => none
 | k + 1, x0, x6, x38, x103000, x103001, x103002, x103003, x114000, x114003 => if x38 = true then ((vouchref21_reader_fail.f x103000 x103001 x103002 x103003 210 x6).bind fun bt114 => (vouchref21_Decode.j1 k x0 x103000 bt114.1 bt114.2.1 bt114.2.2 x114000 x114003)) else (vouchref21_Decode.j1 k x0 x103000 x103001 x103002 x103003 x114000 x114003)
def vouchref21_Decode.j1 : Nat → List Int → List Int → Int → Int → Int → Int → Int → Option (Int × List ByteArray × (List (S41)) × Int × Int × Int)
 | 0, _, _, _, _, _, _, _ => none
 | k + 1, x0, x103000, x103001, x103002, x103003, x114000, x114003 => (vouchref21_reader_number.f k x103000 x103001 x103002 x103003).bind fun bt117 => ((vouchref21_reader_count.f k x103000 bt117.2.1 bt117.2.2.1 bt117.2.2.2 8192).bind fun bt121 => (vouchref21_Decode.l0 k x0 bt121.1 0 x103000 bt121.2.1 bt121.2.2.1 bt121.2.2.2 x114000 ([] : List ByteArray) bt117.1))
def vouchref21_Decode.j3 : Nat → List Int → List Int → Int → Int → Int → Int → List ByteArray → Int → Option (Int × List ByteArray × (List (S41)) × Int × Int × Int)
 | 0, _, _, _, _, _, _, _, _ => none
 | k + 1, x0, x103000, x103001, x103002, x103003, x114000, x114001, x114003 => (vouchref21_reader_count.f k x103000 x103001 x103002 x103003 32768).bind fun bt132 => (vouchref21_Decode.l1 k x0 bt132.1 0 x103000 bt132.2.1 bt132.2.2.1 bt132.2.2.2 x114000 x114001 ([] : List (S41)) x114003)
def vouchref21_Decode.j5 : Nat → List Int → List Int → Int → Int → Int → Int → List ByteArray → List (S41) → Int → Option (Int × List ByteArray × (List (S41)) × Int × Int × Int)
 | 0, _, _, _, _, _, _, _, _, _ => none
 | k + 1, x0, x103000, x103001, x103002, x103003, x114000, x114001, x114002, x114003 => if x103001 < (x0.length : Int) then ((vouchref21_reader_fail.f x103000 x103001 x103002 x103003 210 x103001).bind fun bt146 => (if bt146.2.1 = 0 then (some (x114000, x114001, x114002, x114003, 0, 0)) else (some (0, ([] : List ByteArray), ([] : List (S41)), 0, bt146.2.2, bt146.2.1)))) else (if x103002 = 0 then (some (x114000, x114001, x114002, x114003, 0, 0)) else (some (0, ([] : List ByteArray), ([] : List (S41)), 0, x103003, x103002)))
def vouchref21_Decode.l1 : Nat → List Int → Int → Int → List Int → Int → Int → Int → Int → List ByteArray → List (S41) → Int → Option (Int × List ByteArray × (List (S41)) × Int × Int × Int)
 | 0, _, _, _, _, _, _, _, _, _, _, _ => none
 | k + 1, x0, x8, x11, x103000, x103001, x103002, x103003, x114000, x114001, x114002, x114003 => if x11 < x8 then (if x103002 = 0 then ((vouchref21_reader_one.f k x103000 x103001 x103002 x103003).bind fun bt136 => (if x114002.length < 5864062014805 then (vouchref21_Decode.l1 k x0 x8 (wrap64 (x11 + 1)) x103000 bt136.2.2.2.1 bt136.2.2.2.2.1 bt136.2.2.2.2.2 x114000 x114001 (x114002 ++ [(⟨bt136.1, bt136.2.1, bt136.2.2.1⟩ : S41)]) x114003) else (none))) else (vouchref21_Decode.j5 k x0 x103000 x103001 x103002 x103003 x114000 x114001 x114002 x114003)) else (vouchref21_Decode.j5 k x0 x103000 x103001 x103002 x103003 x114000 x114001 x114002 x114003)
def vouchref21_Decode.l0 : Nat → List Int → Int → Int → List Int → Int → Int → Int → Int → List ByteArray → Int → Option (Int × List ByteArray × (List (S41)) × Int × Int × Int)
 | 0, _, _, _, _, _, _, _, _, _, _ => none
 | k + 1, x0, x8, x9, x103000, x103001, x103002, x103003, x114000, x114001, x114003 => if x9 < x8 then (if x103002 = 0 then ((vouchref21_reader_text.f k x103000 x103001 x103002 x103003).bind fun bt125 => (if x114001.length < 8796093022208 then (vouchref21_Decode.l0 k x0 x8 (wrap64 (x9 + 1)) x103000 bt125.2.1 bt125.2.2.1 bt125.2.2.2 x114000 (x114001 ++ [bt125.1]) x114003) else (none))) else (vouchref21_Decode.j3 k x0 x103000 x103001 x103002 x103003 x114000 x114001 x114003)) else (vouchref21_Decode.j3 k x0 x103000 x103001 x103002 x103003 x114000 x114001 x114003)
end
def vouchref21_Decode.f (k : Nat) (l0 : List Int) : Option (Int × List ByteArray × (List (S41)) × Int × Int × Int) := if (l0.length : Int) > 1048576 then (some (0, ([] : List ByteArray), ([] : List (S41)), 0, 0, 3)) else ((vouchref21_reader_must.f l0 0 0 0 86).bind fun bt103 => ((vouchref21_reader_must.f l0 bt103.1 bt103.2.1 bt103.2.2 80).bind fun bt106 => ((vouchref21_reader_octet.f l0 bt106.1 bt106.2.1 bt106.2.2).bind fun bt109 => (if bt109.1 = 1 then (vouchref21_Decode.j0 k l0 bt106.1 false l0 bt109.2.1 bt109.2.2.1 bt109.2.2.2 bt109.1 0) else (vouchref21_Decode.j0 k l0 bt106.1 (bt109.1 != 2) l0 bt109.2.1 bt109.2.2.1 bt109.2.2.2 bt109.1 0)))))
theorem vouchref21_Decode.mono_l : ∀ k, (∀ y0 y1 y2 y3 y4 y5 y6 y7 y8, LeO (vouchref21_Decode.j0 k y0 y1 y2 y3 y4 y5 y6 y7 y8) (vouchref21_Decode.j0 (k + 1) y0 y1 y2 y3 y4 y5 y6 y7 y8)) ∧ (∀ y0 y1 y2 y3 y4 y5 y6, LeO (vouchref21_Decode.j1 k y0 y1 y2 y3 y4 y5 y6) (vouchref21_Decode.j1 (k + 1) y0 y1 y2 y3 y4 y5 y6)) ∧ (∀ y0 y1 y2 y3 y4 y5 y6 y7, LeO (vouchref21_Decode.j3 k y0 y1 y2 y3 y4 y5 y6 y7) (vouchref21_Decode.j3 (k + 1) y0 y1 y2 y3 y4 y5 y6 y7)) ∧ (∀ y0 y1 y2 y3 y4 y5 y6 y7 y8, LeO (vouchref21_Decode.j5 k y0 y1 y2 y3 y4 y5 y6 y7 y8) (vouchref21_Decode.j5 (k + 1) y0 y1 y2 y3 y4 y5 y6 y7 y8)) ∧ (∀ y0 y1 y2 y3 y4 y5 y6 y7 y8 y9 y10, LeO (vouchref21_Decode.l1 k y0 y1 y2 y3 y4 y5 y6 y7 y8 y9 y10) (vouchref21_Decode.l1 (k + 1) y0 y1 y2 y3 y4 y5 y6 y7 y8 y9 y10)) ∧ (∀ y0 y1 y2 y3 y4 y5 y6 y7 y8 y9, LeO (vouchref21_Decode.l0 k y0 y1 y2 y3 y4 y5 y6 y7 y8 y9) (vouchref21_Decode.l0 (k + 1) y0 y1 y2 y3 y4 y5 y6 y7 y8 y9))
 | 0 => ⟨fun _ _ _ _ _ _ _ _ _ r h => by simp [vouchref21_Decode.j0] at h, fun _ _ _ _ _ _ _ r h => by simp [vouchref21_Decode.j1] at h, fun _ _ _ _ _ _ _ _ r h => by simp [vouchref21_Decode.j3] at h, fun _ _ _ _ _ _ _ _ _ r h => by simp [vouchref21_Decode.j5] at h, fun _ _ _ _ _ _ _ _ _ _ _ r h => by simp [vouchref21_Decode.l1] at h, fun _ _ _ _ _ _ _ _ _ _ r h => by simp [vouchref21_Decode.l0] at h⟩
 | k + 1 => by
  obtain ⟨ih0, ih1, ih2, ih3, ih4, ih5⟩ := vouchref21_Decode.mono_l k
  refine ⟨?_, ?_, ?_, ?_, ?_, ?_⟩
  ·intro y0 y1 y2 y3 y4 y5 y6 y7 y8
   unfold vouchref21_Decode.j0
   repeat' first
   | (with_reducible exact ih0 _ _ _ _ _ _ _ _ _)
   | (with_reducible exact ih1 _ _ _ _ _ _ _)
   | (with_reducible exact ih2 _ _ _ _ _ _ _ _)
   | (with_reducible exact ih3 _ _ _ _ _ _ _ _ _)
   | (with_reducible exact ih4 _ _ _ _ _ _ _ _ _ _ _)
   | (with_reducible exact ih5 _ _ _ _ _ _ _ _ _ _)
   | (with_reducible exact vouchref21_reader_count.mono _ _ _ _ _ _)
   | (with_reducible exact vouchref21_reader_number.mono _ _ _ _ _)
   | (with_reducible exact vouchref21_reader_one.mono _ _ _ _ _)
   | (with_reducible exact vouchref21_reader_text.mono _ _ _ _ _)
   | (with_reducible exact LeO.refl _)
   | (with_reducible exact LeO.none _)
   | (with_reducible refine LeO.ite ?_ ?_)
   | (with_reducible refine LeO.bind ?_ (fun _ => ?_))
   | exact ih0 _ _ _ _ _ _ _ _ _
   | exact ih1 _ _ _ _ _ _ _
   | exact ih2 _ _ _ _ _ _ _ _
   | exact ih3 _ _ _ _ _ _ _ _ _
   | exact ih4 _ _ _ _ _ _ _ _ _ _ _
   | exact ih5 _ _ _ _ _ _ _ _ _ _
   | exact vouchref21_reader_count.mono _ _ _ _ _ _
   | exact vouchref21_reader_number.mono _ _ _ _ _
   | exact vouchref21_reader_one.mono _ _ _ _ _
   | exact vouchref21_reader_text.mono _ _ _ _ _
   | exact LeO.none _
   | refine LeO.ite ?_ ?_
   | refine LeO.bind ?_ (fun _ => ?_)
  ·intro y0 y1 y2 y3 y4 y5 y6
   unfold vouchref21_Decode.j1
   repeat' first
   | (with_reducible exact ih0 _ _ _ _ _ _ _ _ _)
   | (with_reducible exact ih1 _ _ _ _ _ _ _)
   | (with_reducible exact ih2 _ _ _ _ _ _ _ _)
   | (with_reducible exact ih3 _ _ _ _ _ _ _ _ _)
   | (with_reducible exact ih4 _ _ _ _ _ _ _ _ _ _ _)
   | (with_reducible exact ih5 _ _ _ _ _ _ _ _ _ _)
   | (with_reducible exact vouchref21_reader_count.mono _ _ _ _ _ _)
   | (with_reducible exact vouchref21_reader_number.mono _ _ _ _ _)
   | (with_reducible exact vouchref21_reader_one.mono _ _ _ _ _)
   | (with_reducible exact vouchref21_reader_text.mono _ _ _ _ _)
   | (with_reducible exact LeO.refl _)
   | (with_reducible exact LeO.none _)
   | (with_reducible refine LeO.ite ?_ ?_)
   | (with_reducible refine LeO.bind ?_ (fun _ => ?_))
   | exact ih0 _ _ _ _ _ _ _ _ _
   | exact ih1 _ _ _ _ _ _ _
   | exact ih2 _ _ _ _ _ _ _ _
   | exact ih3 _ _ _ _ _ _ _ _ _
   | exact ih4 _ _ _ _ _ _ _ _ _ _ _
   | exact ih5 _ _ _ _ _ _ _ _ _ _
   | exact vouchref21_reader_count.mono _ _ _ _ _ _
   | exact vouchref21_reader_number.mono _ _ _ _ _
   | exact vouchref21_reader_one.mono _ _ _ _ _
   | exact vouchref21_reader_text.mono _ _ _ _ _
   | exact LeO.none _
   | refine LeO.ite ?_ ?_
   | refine LeO.bind ?_ (fun _ => ?_)
  ·intro y0 y1 y2 y3 y4 y5 y6 y7
   unfold vouchref21_Decode.j3
   repeat' first
   | (with_reducible exact ih0 _ _ _ _ _ _ _ _ _)
   | (with_reducible exact ih1 _ _ _ _ _ _ _)
   | (with_reducible exact ih2 _ _ _ _ _ _ _ _)
   | (with_reducible exact ih3 _ _ _ _ _ _ _ _ _)
   | (with_reducible exact ih4 _ _ _ _ _ _ _ _ _ _ _)
   | (with_reducible exact ih5 _ _ _ _ _ _ _ _ _ _)
   | (with_reducible exact vouchref21_reader_count.mono _ _ _ _ _ _)
   | (with_reducible exact vouchref21_reader_number.mono _ _ _ _ _)
   | (with_reducible exact vouchref21_reader_one.mono _ _ _ _ _)
   | (with_reducible exact vouchref21_reader_text.mono _ _ _ _ _)
   | (with_reducible exact LeO.refl _)
   | (with_reducible exact LeO.none _)
   | (with_reducible refine LeO.ite ?_ ?_)
   | (with_reducible refine LeO.bind ?_ (fun _ => ?_))
   | exact ih0 _ _ _ _ _ _ _ _ _
   | exact ih1 _ _ _ _ _ _ _
   | exact ih2 _ _ _ _ _ _ _ _
   | exact ih3 _ _ _ _ _ _ _ _ _
   | exact ih4 _ _ _ _ _ _ _ _ _ _ _
   | exact ih5 _ _ _ _ _ _ _ _ _ _
   | exact vouchref21_reader_count.mono _ _ _ _ _ _
   | exact vouchref21_reader_number.mono _ _ _ _ _
   | exact vouchref21_reader_one.mono _ _ _ _ _
   | exact vouchref21_reader_text.mono _ _ _ _ _
   | exact LeO.none _
   | refine LeO.ite ?_ ?_
   | refine LeO.bind ?_ (fun _ => ?_)
  ·intro y0 y1 y2 y3 y4 y5 y6 y7 y8
   unfold vouchref21_Decode.j5
   repeat' first
   | (with_reducible exact ih0 _ _ _ _ _ _ _ _ _)
   | (with_reducible exact ih1 _ _ _ _ _ _ _)
   | (with_reducible exact ih2 _ _ _ _ _ _ _ _)
   | (with_reducible exact ih3 _ _ _ _ _ _ _ _ _)
   | (with_reducible exact ih4 _ _ _ _ _ _ _ _ _ _ _)
   | (with_reducible exact ih5 _ _ _ _ _ _ _ _ _ _)
   | (with_reducible exact vouchref21_reader_count.mono _ _ _ _ _ _)
   | (with_reducible exact vouchref21_reader_number.mono _ _ _ _ _)
   | (with_reducible exact vouchref21_reader_one.mono _ _ _ _ _)
   | (with_reducible exact vouchref21_reader_text.mono _ _ _ _ _)
   | (with_reducible exact LeO.refl _)
   | (with_reducible exact LeO.none _)
   | (with_reducible refine LeO.ite ?_ ?_)
   | (with_reducible refine LeO.bind ?_ (fun _ => ?_))
   | exact ih0 _ _ _ _ _ _ _ _ _
   | exact ih1 _ _ _ _ _ _ _
   | exact ih2 _ _ _ _ _ _ _ _
   | exact ih3 _ _ _ _ _ _ _ _ _
   | exact ih4 _ _ _ _ _ _ _ _ _ _ _
   | exact ih5 _ _ _ _ _ _ _ _ _ _
   | exact vouchref21_reader_count.mono _ _ _ _ _ _
   | exact vouchref21_reader_number.mono _ _ _ _ _
   | exact vouchref21_reader_one.mono _ _ _ _ _
   | exact vouchref21_reader_text.mono _ _ _ _ _
   | exact LeO.none _
   | refine LeO.ite ?_ ?_
   | refine LeO.bind ?_ (fun _ => ?_)
  ·intro y0 y1 y2 y3 y4 y5 y6 y7 y8 y9 y10
   unfold vouchref21_Decode.l1
   repeat' first
   | (with_reducible exact ih0 _ _ _ _ _ _ _ _ _)
   | (with_reducible exact ih1 _ _ _ _ _ _ _)
   | (with_reducible exact ih2 _ _ _ _ _ _ _ _)
   | (with_reducible exact ih3 _ _ _ _ _ _ _ _ _)
   | (with_reducible exact ih4 _ _ _ _ _ _ _ _ _ _ _)
   | (with_reducible exact ih5 _ _ _ _ _ _ _ _ _ _)
   | (with_reducible exact vouchref21_reader_count.mono _ _ _ _ _ _)
   | (with_reducible exact vouchref21_reader_number.mono _ _ _ _ _)
   | (with_reducible exact vouchref21_reader_one.mono _ _ _ _ _)
   | (with_reducible exact vouchref21_reader_text.mono _ _ _ _ _)
   | (with_reducible exact LeO.refl _)
   | (with_reducible exact LeO.none _)
   | (with_reducible refine LeO.ite ?_ ?_)
   | (with_reducible refine LeO.bind ?_ (fun _ => ?_))
   | exact ih0 _ _ _ _ _ _ _ _ _
   | exact ih1 _ _ _ _ _ _ _
   | exact ih2 _ _ _ _ _ _ _ _
   | exact ih3 _ _ _ _ _ _ _ _ _
   | exact ih4 _ _ _ _ _ _ _ _ _ _ _
   | exact ih5 _ _ _ _ _ _ _ _ _ _
   | exact vouchref21_reader_count.mono _ _ _ _ _ _
   | exact vouchref21_reader_number.mono _ _ _ _ _
   | exact vouchref21_reader_one.mono _ _ _ _ _
   | exact vouchref21_reader_text.mono _ _ _ _ _
   | exact LeO.none _
   | refine LeO.ite ?_ ?_
   | refine LeO.bind ?_ (fun _ => ?_)
  ·intro y0 y1 y2 y3 y4 y5 y6 y7 y8 y9
   unfold vouchref21_Decode.l0
   repeat' first
   | (with_reducible exact ih0 _ _ _ _ _ _ _ _ _)
   | (with_reducible exact ih1 _ _ _ _ _ _ _)
   | (with_reducible exact ih2 _ _ _ _ _ _ _ _)
   | (with_reducible exact ih3 _ _ _ _ _ _ _ _ _)
   | (with_reducible exact ih4 _ _ _ _ _ _ _ _ _ _ _)
   | (with_reducible exact ih5 _ _ _ _ _ _ _ _ _ _)
   | (with_reducible exact vouchref21_reader_count.mono _ _ _ _ _ _)
   | (with_reducible exact vouchref21_reader_number.mono _ _ _ _ _)
   | (with_reducible exact vouchref21_reader_one.mono _ _ _ _ _)
   | (with_reducible exact vouchref21_reader_text.mono _ _ _ _ _)
   | (with_reducible exact LeO.refl _)
   | (with_reducible exact LeO.none _)
   | (with_reducible refine LeO.ite ?_ ?_)
   | (with_reducible refine LeO.bind ?_ (fun _ => ?_))
   | exact ih0 _ _ _ _ _ _ _ _ _
   | exact ih1 _ _ _ _ _ _ _
   | exact ih2 _ _ _ _ _ _ _ _
   | exact ih3 _ _ _ _ _ _ _ _ _
   | exact ih4 _ _ _ _ _ _ _ _ _ _ _
   | exact ih5 _ _ _ _ _ _ _ _ _ _
   | exact vouchref21_reader_count.mono _ _ _ _ _ _
   | exact vouchref21_reader_number.mono _ _ _ _ _
   | exact vouchref21_reader_one.mono _ _ _ _ _
   | exact vouchref21_reader_text.mono _ _ _ _ _
   | exact LeO.none _
   | refine LeO.ite ?_ ?_
   | refine LeO.bind ?_ (fun _ => ?_)
theorem vouchref21_Decode.mono : ∀ a0 k, LeO (vouchref21_Decode.f k a0) (vouchref21_Decode.f (k + 1) a0) := by
 intro a0 k
 obtain ⟨ih0, ih1, ih2, ih3, ih4, ih5⟩ := vouchref21_Decode.mono_l k
 unfold vouchref21_Decode.f
 repeat' first
   | (with_reducible exact ih0 _ _ _ _ _ _ _ _ _)
   | (with_reducible exact ih1 _ _ _ _ _ _ _)
   | (with_reducible exact ih2 _ _ _ _ _ _ _ _)
   | (with_reducible exact ih3 _ _ _ _ _ _ _ _ _)
   | (with_reducible exact ih4 _ _ _ _ _ _ _ _ _ _ _)
   | (with_reducible exact ih5 _ _ _ _ _ _ _ _ _ _)
   | (with_reducible exact vouchref21_reader_count.mono _ _ _ _ _ _)
   | (with_reducible exact vouchref21_reader_number.mono _ _ _ _ _)
   | (with_reducible exact vouchref21_reader_one.mono _ _ _ _ _)
   | (with_reducible exact vouchref21_reader_text.mono _ _ _ _ _)
   | (with_reducible exact LeO.refl _)
   | (with_reducible exact LeO.none _)
   | (with_reducible refine LeO.ite ?_ ?_)
   | (with_reducible refine LeO.bind ?_ (fun _ => ?_))
   | exact ih0 _ _ _ _ _ _ _ _ _
   | exact ih1 _ _ _ _ _ _ _
   | exact ih2 _ _ _ _ _ _ _ _
   | exact ih3 _ _ _ _ _ _ _ _ _
   | exact ih4 _ _ _ _ _ _ _ _ _ _ _
   | exact ih5 _ _ _ _ _ _ _ _ _ _
   | exact vouchref21_reader_count.mono _ _ _ _ _ _
   | exact vouchref21_reader_number.mono _ _ _ _ _
   | exact vouchref21_reader_one.mono _ _ _ _ _
   | exact vouchref21_reader_text.mono _ _ _ _ _
   | exact LeO.none _
   | refine LeO.ite ?_ ?_
   | refine LeO.bind ?_ (fun _ => ?_)
def vouchref21_Decode.T26 : Bool × List (List Nat × List Nat) := (true, [([], []), ([], []), ([1], [1]), ([2], [2]), ([3], [3]), ([], []), ([5], [5]), ([6], [6]), ([7], [7]), ([0, 0], [0]), ([4, 9, 0, 1, 2, 3, 4, 9], [4]), ([8, 10, 0, 1, 2, 3, 4, 5, 6, 7, 8, 9, 10], [8])])
def vouchref21_Decode.B26 : List Nat := [0, 0, 2, 6, 14, 0, 32, 96, 224, 1, 543, 2047]
theorem vouchref21_Decode.tab26 : rtab .any (opsOf Try.f19 26) = vouchref21_Decode.T26 := by kernel_rfl
theorem vouchref21_Decode.bits26 : waitsOk vouchref21_Decode.T26.2 vouchref21_Decode.B26 = true := by kernel_rfl
theorem vouchref21_Decode.like56 {w0 W0 W : World} {g : Nat} {x0 : _} {x1 : _} {x2 : _} {x3 : _} (_ : IsS56 w0 W0 g x0 x1 x2 x3) (h : IsS56 w0 W g x0 x1 x2 x3) : IsS56 w0 W g x0 x1 x2 x3 := h
set_option maxHeartbeats 8000000 in
set_option maxRecDepth 100000 in
theorem vouchref21_Decode.calls (k : Nat) (A0 : Option Addr) (c0 : Nat) (l0 : List Int) (r1 : Int) (r2 : List ByteArray) (r3 : List (S41)) (r4 : Int) (r5 : Int) (r6 : Int) (w : World) (hr0 : Kd.C (Kd.int .u8) w A0 l0.length l0) (hc0 : l0.length ≤ c0) (h : vouchref21_Decode.f k l0 = some (r1, r2, r3, r4, r5, r6)) :
  Calls Try.prog 19 #[.slice A0 l0.length c0] w fun e w' => ∃ v1_ v2_ : Value, e = .returned (.tuple #[.agg #[.int .u8 r1, v1_, v2_, .int .i64 r4], .int .i64 r5, .int .i64 r6]) ∧ Kd.R Kd.string 9 w' w.heap.size (fun _ => True) v1_ r2 ∧ Kd.R k41 41 w' w.heap.size (fun _ => True) v2_ r3 ∧ Below w.heap.size w w' := by
 have hu25 := Try.underlying25
 have hu56 := Try.underlying56
 have hu41 := Try.underlying41
 have HR0 := Aside0.mk hr0
 have HC0 := Aside0.mk hc0
 clear hr0 hc0
 have HB := Aside0.mk (Below.refl w.heap.size w)
 have H : (if (l0.length : Int) > 1048576 then (some (0, ([] : List ByteArray), ([] : List (S41)), 0, 0, 3)) else ((vouchref21_reader_must.f l0 0 0 0 86).bind fun bt103 => ((vouchref21_reader_must.f l0 bt103.1 bt103.2.1 bt103.2.2 80).bind fun bt106 => ((vouchref21_reader_octet.f l0 bt106.1 bt106.2.1 bt106.2.2).bind fun bt109 => (if bt109.1 = 1 then (vouchref21_Decode.j0 k l0 bt106.1 false l0 bt109.2.1 bt109.2.2.1 bt109.2.2.2 bt109.1 0) else (vouchref21_Decode.j0 k l0 bt106.1 (bt109.1 != 2) l0 bt109.2.1 bt109.2.2.1 bt109.2.2.2 bt109.1 0)))))) = some (r1, r2, r3, r4, r5, r6) := h
 clear h
 by_cases c2 : (l0.length : Int) > 1048576
 ·rw [if_pos c2] at H
  have c2b0 : decide (1048576 < (l0.length : Int)) = true := decide_eq_true c2
  have c2b1 : decide (1048576 < l0.length) = true := decide_eq_true (by omega)
  clear c2
  simp only [Option.some.injEq, Prod.mk.injEq] at H
  obtain ⟨rfl, rfl, rfl, rfl, rfl, rfl⟩ := H
  go_enter Try.func19, Try.ntmps19
  go_wp2_with (first | ((with_reducible refine gate_dst (N := 2) rfl ?_); refine box_event ?hg (N := 2) ?hd (cs := #[.int .u8 0, .slice none 0 0, .slice none 0 0, .int .i64 0]) (t := 25) ?hr ?_; (case hd => rfl); (case hg => rfl); (case hr => first | (go_simp; done) | (go_simp; rfl)); intro gb101 hg w3 hbox hb; have n0_ := Aside0.mk (below_step (bl HB) hb); have n1_ := Aside0.mk (hbox); have n2_ := Aside0.mk ((by rw [hg]; exact (below_size (bl HB)) : w.heap.size ≤ gb101)); have n3_ := Aside0.mk ((by rw [hg]; exact (below_size (bl HB)) : w.heap.size ≤ gb101)); clear HB; have HB := n0_; have BK101 := n1_; have GW101 := n2_; have GE101 := n3_; clear n0_ n1_ n2_ n3_; clear hb hbox hg; have hcz4_0 : w3.cell? ⟨gb101, 0, none⟩ = some (.int .u8 0) := (blk_cell BK101.out 0).trans rfl; have hcz4_1 : w3.cell? ⟨gb101, 1, none⟩ = some (.slice none 0 0) := (blk_cell BK101.out 1).trans rfl; have hcz4_2 : w3.cell? ⟨gb101, 2, none⟩ = some (.slice none 0 0) := (blk_cell BK101.out 2).trans rfl; have hcz4_3 : w3.cell? ⟨gb101, 3, none⟩ = some (.int .i64 0) := (blk_cell BK101.out 3).trans rfl; have hfz4_0 := blk_frozen BK101.out 0; have hfz4_1 := blk_frozen BK101.out 1; have hfz4_2 := blk_frozen BK101.out 2; have hfz4_3 := blk_frozen BK101.out 3))
  refine bodyPost_ret (results_ctt rfl _ _ gb101 25 #[.int .u8 0, .slice none 0 0, .slice none 0 0, .int .i64 0] (0, 0) _ rfl (by (with_reducible repeat (first | refine blk_drewN ?_ _ | refine blk_drew ?_ | refine blk_alloc ?_ _)); (try refine blk_put (cs := #[.int .u8 0, .slice none 0 0, .slice none 0 0, .int .i64 0]) ?_ 3 _ rfl); (with_reducible repeat (first | refine blk_drewN ?_ _ | refine blk_drew ?_ | refine blk_alloc ?_ _)); (try refine blk_put (cs := #[.int .u8 0, .slice none 0 0, .slice none 0 0, .int .i64 0]) ?_ 2 _ rfl); (with_reducible repeat (first | refine blk_drewN ?_ _ | refine blk_drew ?_ | refine blk_alloc ?_ _)); (try refine blk_put (cs := #[.int .u8 0, .slice none 0 0, .slice none 0 0, .int .i64 0]) ?_ 1 _ rfl); (with_reducible repeat (first | refine blk_drewN ?_ _ | refine blk_drew ?_ | refine blk_alloc ?_ _)); (try refine blk_put (cs := #[.int .u8 0, .slice none 0 0, .slice none 0 0, .int .i64 0]) ?_ 0 _ rfl); (with_reducible repeat (first | refine blk_drewN ?_ _ | refine blk_drew ?_ | refine blk_alloc ?_ _)); exact BK101.out) Try.underlying25 rfl (by kernel_rfl)) rfl ?_
  exact ⟨_, _, by first | rfl | (simp [errW_none, errW_some] <;> rfl) | (simp [*, errW_none, errW_some] <;> rfl), by first | exact Kd.R_nil _ _ _ _ _ | exact Kd.N_nil _ _ _ _ _ | exact Kd.V_nil _ _ _ _ _ | exact Kd.Q_nil _ _ _ _ _ | exact Kd.S_nil _ _ _ _ _, by first | exact Kd.R_nil _ _ _ _ _ | exact Kd.N_nil _ _ _ _ _ | exact Kd.V_nil _ _ _ _ _ | exact Kd.Q_nil _ _ _ _ _ | exact Kd.S_nil _ _ _ _ _, by repeat (first | (with_reducible first | exact HB.out | apply below_alloc | apply pw_below_drewN | apply below_drew1 | refine below_set ?_ GE101.out) | exact HB.out)⟩
 ·rw [if_neg c2] at H
  have c2b0 : decide (1048576 < (l0.length : Int)) = false := decide_eq_false c2
  have c2b1 : decide (1048576 < l0.length) = false := decide_eq_false (by omega)
  clear c2
  replace H := Option.bind_eq_some_iff.mp H
  obtain ⟨⟨t103, t104, t105⟩, A50, H⟩ := H
  replace H : ((vouchref21_reader_must.f l0 t103 t104 t105 80).bind fun bt106 => ((vouchref21_reader_octet.f l0 bt106.1 bt106.2.1 bt106.2.2).bind fun bt109 => (if bt109.1 = 1 then (vouchref21_Decode.j0 k l0 bt106.1 false l0 bt109.2.1 bt109.2.2.1 bt109.2.2.2 bt109.1 0) else (vouchref21_Decode.j0 k l0 bt106.1 (bt109.1 != 2) l0 bt109.2.1 bt109.2.2.1 bt109.2.2.2 bt109.1 0)))) = some (r1, r2, r3, r4, r5, r6) := H
  have A5 := Aside0.mk A50
  clear A50
  replace H := Option.bind_eq_some_iff.mp H
  obtain ⟨⟨t106, t107, t108⟩, A60, H⟩ := H
  replace H : ((vouchref21_reader_octet.f l0 t106 t107 t108).bind fun bt109 => (if bt109.1 = 1 then (vouchref21_Decode.j0 k l0 t106 false l0 bt109.2.1 bt109.2.2.1 bt109.2.2.2 bt109.1 0) else (vouchref21_Decode.j0 k l0 t106 (bt109.1 != 2) l0 bt109.2.1 bt109.2.2.1 bt109.2.2.2 bt109.1 0))) = some (r1, r2, r3, r4, r5, r6) := H
  have A6 := Aside0.mk A60
  clear A60
  replace H := Option.bind_eq_some_iff.mp H
  obtain ⟨⟨t109, t110, t111, t112⟩, A70, H⟩ := H
  replace H : (if t109 = 1 then (vouchref21_Decode.j0 k l0 t106 false l0 t110 t111 t112 t109 0) else (vouchref21_Decode.j0 k l0 t106 (t109 != 2) l0 t110 t111 t112 t109 0)) = some (r1, r2, r3, r4, r5, r6) := H
  have A7 := Aside0.mk A70
  clear A70
  have HC8 := Aside0.mk H
  clear H
  go_enter Try.func19, Try.ntmps19
  go_upto_region 8 with (first | ((with_reducible refine gate_dst (N := 2) rfl ?_); refine box_event ?hg (N := 2) ?hd (cs := #[.int .u8 0, .slice none 0 0, .slice none 0 0, .int .i64 0]) (t := 25) ?hr ?_; (case hd => rfl); (case hg => rfl); (case hr => first | (go_simp; done) | (go_simp; rfl)); intro gb101 hg w9 hbox hb; have n0_ := Aside0.mk (below_step (bl HB) hb); have n1_ := Aside0.mk (hbox); have n2_ := Aside0.mk ((by rw [hg]; exact (below_size (bl HB)) : w.heap.size ≤ gb101)); have n3_ := Aside0.mk ((by rw [hg]; exact (below_size (bl HB)) : w.heap.size ≤ gb101)); clear HB; have HB := n0_; have BK101 := n1_; have GW101 := n2_; have GE101 := n3_; clear n0_ n1_ n2_ n3_; clear hb hbox hg) | ((with_reducible refine gate_dst (N := 19) rfl ?_); refine box_event ?hg (N := 19) ?hd (cs := #[.slice A0 l0.length c0, .int .i64 0, .int .i64 0, .int .i64 0]) (t := 56) ?hr ?_; (case hd => rfl); (case hg => rfl); (case hr => first | (go_simp; done) | (go_simp; rfl)); intro gb102 hg w10 hbox hb; have n0_ := Aside0.mk (blk_below (g := gb101) (o := .cells #[.int .u8 0, .slice none 0 0, .slice none 0 0, .int .i64 0] 25 (0, 0)) (bk BK101) hb); have n1_ := Aside0.mk (below_step (bl1 HB GE101) hb); have n2_ := Aside0.mk ((by rw [hg]; exact (below_size (bl1 HB GE101)) : w.heap.size ≤ gb102)); have n3_ := Aside0.mk ((by rw [hg]; exact (below_size (bl1 HB GE101)) : w.heap.size ≤ gb102)); have n4_ := Aside0.mk ((by rw [hg]; exact Nat.ne_of_lt (blk_lt (g := gb101) (o := .cells #[.int .u8 0, .slice none 0 0, .slice none 0 0, .int .i64 0] 25 (0, 0)) (bk BK101)) : gb101 ≠ gb102)); have n5_ := Aside0.mk ((by rw [hg]; exact Nat.ne_of_gt (blk_lt (g := gb101) (o := .cells #[.int .u8 0, .slice none 0 0, .slice none 0 0, .int .i64 0] 25 (0, 0)) (bk BK101)) : gb102 ≠ gb101)); have n6_ := Aside0.mk ((show IsS56 w w10 gb102 l0 0 0 0 from ⟨A0, c0, hbox, (by rw [hg]; exact (below_size (bl1 HB GE101)) : w.heap.size ≤ gb102), ⟨HR0.out, HC0.out⟩⟩)); clear BK101; clear HB; have BK101 := n0_; have HB := n1_; have GW102 := n2_; have GE102 := n3_; have NB101_102 := n4_; have NB102_101 := n5_; have HI102 := n6_; clear n0_ n1_ n2_ n3_ n4_ n5_ n6_; clear hb hbox hg) | ((with_reducible refine gate_callee (f := 35) rfl ?_); refine goesL_ (some 21) rfl rfl Try.func35 (by kernel_rfl) rfl #[.pointer (some ⟨gb102, 0, none⟩), .int .u8 86] rfl (by (try simp only [List.map_toArray, List.map_cons, List.map_nil]); first | done | rfl | (simp only [List.length_drop, List.length_take]; rfl)) ?_; (with_reducible refine (vouchref21_reader_must.calls gb102 l0 0 0 0 86 t103 t104 t105 w _ ?side1 ?side2 A5.out).mono ?_); (case side1 => repeat (first | (with_reducible first | exact HI102.out | apply IsS56.alloc | apply IsS56.drewN | apply IsS56.drew | apply IsS56.set_1 | apply IsS56.set_2 | apply IsS56.set_3 | refine IsS56.far ?_ NB102_101.out _) | exact HI102.out)); (case side2 => repeat (first | (with_reducible first | exact HB.out | apply below_alloc | apply pw_below_drewN | apply below_drew1 | refine below_set ?_ (IsS56.ge HI102.out) | refine below_set ?_ GE101.out) | exact HB.out)); rintro e w11 ⟨rfl, hi, hb, hk⟩; refine ⟨_, rfl, ?_⟩; have n0_ := Aside0.mk (KeepBut.blk hk (g' := gb101) (o := .cells #[.int .u8 0, .slice none 0 0, .slice none 0 0, .int .i64 0] 25 (0, 0)) (bk BK101) NB101_102.out (by simp)); have n1_ := Aside0.mk (hb); have n2_ := Aside0.mk (hi); clear BK101; clear HB; clear HI102; have BK101 := n0_; have HB := n1_; have HI102 := n2_; clear n0_ n1_ n2_; (try clear hb); (try clear hb2); (try clear hk); (try clear hi)) | ((with_reducible refine gate_callee (f := 35) rfl ?_); refine goesL_ (some 23) rfl rfl Try.func35 (by kernel_rfl) rfl #[.pointer (some ⟨gb102, 0, none⟩), .int .u8 80] rfl (by (try simp only [List.map_toArray, List.map_cons, List.map_nil]); first | done | rfl | (simp only [List.length_drop, List.length_take]; rfl)) ?_; (with_reducible refine (vouchref21_reader_must.calls gb102 l0 t103 t104 t105 80 t106 t107 t108 w _ ?side1 ?side2 A6.out).mono ?_); (case side1 => repeat (first | (with_reducible first | exact HI102.out | apply IsS56.alloc | apply IsS56.drewN | apply IsS56.drew | apply IsS56.set_1 | apply IsS56.set_2 | apply IsS56.set_3 | refine IsS56.far ?_ NB102_101.out _) | exact HI102.out)); (case side2 => repeat (first | (with_reducible first | exact HB.out | apply below_alloc | apply pw_below_drewN | apply below_drew1 | refine below_set ?_ (IsS56.ge HI102.out) | refine below_set ?_ GE101.out) | exact HB.out)); rintro e w12 ⟨rfl, hi, hb, hk⟩; refine ⟨_, rfl, ?_⟩; have n0_ := Aside0.mk (KeepBut.blk hk (g' := gb101) (o := .cells #[.int .u8 0, .slice none 0 0, .slice none 0 0, .int .i64 0] 25 (0, 0)) (bk BK101) NB101_102.out (by simp)); have n1_ := Aside0.mk (hb); have n2_ := Aside0.mk (hi); clear BK101; clear HB; clear HI102; have BK101 := n0_; have HB := n1_; have HI102 := n2_; clear n0_ n1_ n2_; (try clear hb); (try clear hb2); (try clear hk); (try clear hi); obtain ⟨ASz13_0, cSz13_0, HGz13, hgz13, ⟨HSz13_0, HTz13_0⟩⟩ := HI102.out; have hcz13_0 := cellS56_0 HGz13; have hcz13_1 := cellS56_1 HGz13; have hcz13_2 := cellS56_2 HGz13; have hcz13_3 := cellS56_3 HGz13; have hfz13_1 := blk_frozen HGz13 1; have hfz13_2 := blk_frozen HGz13 2; have hfz13_3 := blk_frozen HGz13 3; clear HGz13 hgz13) | ((with_reducible refine gate_callee (f := 36) rfl ?_); refine goesL_ (some 29) rfl rfl Try.func36 (by kernel_rfl) rfl #[.pointer (some ⟨gb102, 0, none⟩)] rfl (by (try simp only [List.map_toArray, List.map_cons, List.map_nil]); first | done | rfl | (simp only [List.length_drop, List.length_take]; rfl)) ?_; (with_reducible refine (vouchref21_reader_octet.calls gb102 l0 t106 t107 t108 t109 t110 t111 t112 w _ ?side1 ?side2 A7.out).mono ?_); (case side1 => repeat (first | (with_reducible first | exact HI102.out | apply IsS56.alloc | apply IsS56.drewN | apply IsS56.drew | apply IsS56.set_1 | apply IsS56.set_2 | apply IsS56.set_3 | refine IsS56.far ?_ NB102_101.out _) | exact HI102.out)); (case side2 => repeat (first | (with_reducible first | exact HB.out | apply below_alloc | apply pw_below_drewN | apply below_drew1 | refine below_set ?_ (IsS56.ge HI102.out) | refine below_set ?_ GE101.out) | exact HB.out)); rintro e w14 ⟨rfl, hi, hb, hk⟩; refine ⟨_, rfl, ?_⟩; have n0_ := Aside0.mk (KeepBut.blk hk (g' := gb101) (o := .cells #[.int .u8 0, .slice none 0 0, .slice none 0 0, .int .i64 0] 25 (0, 0)) (bk BK101) NB101_102.out (by simp)); have n1_ := Aside0.mk (hb); have n2_ := Aside0.mk (hi); clear BK101; clear HB; clear HI102; have BK101 := n0_; have HB := n1_; have HI102 := n2_; clear n0_ n1_ n2_; (try clear hb); (try clear hb2); (try clear hk); (try clear hi)) | ((with_reducible refine gate_dst (N := 7) rfl ?_); refine box_event ?hg (N := 7) ?hd (cs := #[.int .u8 0, .slice none 0 0, .slice none 0 0, .int .i64 0]) (t := 25) ?hr ?_; (case hd => rfl); (case hg => rfl); (case hr => first | (go_simp; done) | (go_simp; rfl)); intro gb113 hg w15 hbox hb; have n0_ := Aside0.mk (blk_below (g := gb101) (o := .cells #[.int .u8 0, .slice none 0 0, .slice none 0 0, .int .i64 0] 25 (0, 0)) (bk BK101) hb); have n1_ := Aside0.mk (IsS56.below (by repeat (first | (with_reducible first | exact HI102.out | apply IsS56.alloc | apply IsS56.drewN | apply IsS56.drew | apply IsS56.set_1 | apply IsS56.set_2 | apply IsS56.set_3 | refine IsS56.far ?_ NB102_101.out _) | exact HI102.out)) hb); have n2_ := Aside0.mk (below_step (by repeat (first | (with_reducible first | exact HB.out | apply below_alloc | apply pw_below_drewN | apply below_drew1 | refine below_set ?_ (IsS56.ge HI102.out) | refine below_set ?_ GE101.out) | exact HB.out)) hb); have n3_ := Aside0.mk (hbox); have n4_ := Aside0.mk ((by rw [hg]; exact (below_size (by repeat (first | (with_reducible first | exact HB.out | apply below_alloc | apply pw_below_drewN | apply below_drew1 | refine below_set ?_ (IsS56.ge HI102.out) | refine below_set ?_ GE101.out) | exact HB.out))) : w.heap.size ≤ gb113)); have n5_ := Aside0.mk ((by rw [hg]; exact (below_size (by repeat (first | (with_reducible first | exact HB.out | apply below_alloc | apply pw_below_drewN | apply below_drew1 | refine below_set ?_ (IsS56.ge HI102.out) | refine below_set ?_ GE101.out) | exact HB.out))) : w.heap.size ≤ gb113)); have n6_ := Aside0.mk ((by rw [hg]; exact Nat.ne_of_lt (blk_lt (g := gb101) (o := .cells #[.int .u8 0, .slice none 0 0, .slice none 0 0, .int .i64 0] 25 (0, 0)) (bk BK101)) : gb101 ≠ gb113)); have n7_ := Aside0.mk ((by rw [hg]; exact Nat.ne_of_gt (blk_lt (g := gb101) (o := .cells #[.int .u8 0, .slice none 0 0, .slice none 0 0, .int .i64 0] 25 (0, 0)) (bk BK101)) : gb113 ≠ gb101)); have n8_ := Aside0.mk ((by rw [hg]; exact Nat.ne_of_lt (IsS56.lt (show IsS56 w _ gb102 l0 t110 t111 t112 from by repeat (first | (with_reducible first | exact HI102.out | apply IsS56.alloc | apply IsS56.drewN | apply IsS56.drew | apply IsS56.set_1 | apply IsS56.set_2 | apply IsS56.set_3 | refine IsS56.far ?_ NB102_101.out _) | exact HI102.out))) : gb102 ≠ gb113)); have n9_ := Aside0.mk ((by rw [hg]; exact Nat.ne_of_gt (IsS56.lt (show IsS56 w _ gb102 l0 t110 t111 t112 from by repeat (first | (with_reducible first | exact HI102.out | apply IsS56.alloc | apply IsS56.drewN | apply IsS56.drew | apply IsS56.set_1 | apply IsS56.set_2 | apply IsS56.set_3 | refine IsS56.far ?_ NB102_101.out _) | exact HI102.out))) : gb113 ≠ gb102)); clear BK101; clear HI102; clear HB; have BK101 := n0_; have HI102 := n1_; have HB := n2_; have BK113 := n3_; have GW113 := n4_; have GE113 := n5_; have NB101_113 := n6_; have NB113_101 := n7_; have NB102_113 := n8_; have NB113_102 := n9_; clear n0_ n1_ n2_ n3_ n4_ n5_ n6_ n7_ n8_ n9_; clear hb hbox hg; have hnb16 := NB113_101.out; have hnc16 := NB101_113.out; have hnb17 := NB113_102.out; have hnc17 := NB102_113.out; have hcz18_0 : w15.cell? ⟨gb113, 0, none⟩ = some (.int .u8 0) := (blk_cell BK113.out 0).trans rfl; have hcz18_1 : w15.cell? ⟨gb113, 1, none⟩ = some (.slice none 0 0) := (blk_cell BK113.out 1).trans rfl; have hcz18_2 : w15.cell? ⟨gb113, 2, none⟩ = some (.slice none 0 0) := (blk_cell BK113.out 2).trans rfl; have hcz18_3 : w15.cell? ⟨gb113, 3, none⟩ = some (.int .i64 0) := (blk_cell BK113.out 3).trans rfl; have hfz18_0 := blk_frozen BK113.out 0; have hfz18_1 := blk_frozen BK113.out 1; have hfz18_2 := blk_frozen BK113.out 2; have hfz18_3 := blk_frozen BK113.out 3))
  (try simp only [Act.put, List.setIfInBounds_toArray, List.set_cons_zero, List.set_cons_succ])
  go_cut [38] (fun v38 wc => ∃ (kq : Nat) (x38_7 : Bool), v38 = .bool x38_7 ∧ Aside0 (vouchref21_Decode.j0 kq l0 t106 x38_7 l0 t110 t111 t112 t109 0 = some (r1, r2, r3, r4, r5, r6)) ∧ Aside0 (kq ≤ k) ∧ Aside0 (wc.heap[gb101]? = some (.cells #[.int .u8 0, (.slice none 0 0), (.slice none 0 0), .int .i64 0] 25 (0, 0))) ∧ Aside0 (wc.heap[gb113]? = some (.cells #[.int .u8 t109, (.slice none 0 0), (.slice none 0 0), .int .i64 0] 25 (0, 0))) ∧ Aside0 (IsS56 w wc gb102 l0 t110 t111 t112) ∧ Aside0 (Below w.heap.size w wc))
  case first =>
   have H := HC8.out
   clear HC8
   by_cases c19 : t109 = 1
   ·rw [if_pos c19] at H
    have c19b0 : (t109 == 1) = true := beq_iff_eq.mpr c19
    have c19b1 : (t109 != 1) = false := bne_eq_false_iff_eq.mpr c19
    clear c19
    (first | rw [c19b0] | (simp only [i64_w, i32_w]; rw [c19b0]) | skip)
    have H' := Aside0.mk H
    clear H
    have hnb20 := NB113_101.out
    have hnc20 := NB101_113.out
    have hnb21 := NB113_102.out
    have hnc21 := NB102_113.out
    have hcz22_0 : w15.cell? ⟨gb113, 0, none⟩ = some (.int .u8 0) := (blk_cell BK113.out 0).trans rfl
    have hcz22_1 : w15.cell? ⟨gb113, 1, none⟩ = some (.slice none 0 0) := (blk_cell BK113.out 1).trans rfl
    have hcz22_2 : w15.cell? ⟨gb113, 2, none⟩ = some (.slice none 0 0) := (blk_cell BK113.out 2).trans rfl
    have hcz22_3 : w15.cell? ⟨gb113, 3, none⟩ = some (.int .i64 0) := (blk_cell BK113.out 3).trans rfl
    have hfz22_0 := blk_frozen BK113.out 0
    have hfz22_1 := blk_frozen BK113.out 1
    have hfz22_2 := blk_frozen BK113.out 2
    have hfz22_3 := blk_frozen BK113.out 3
    go_wp2
    go_meet
    case rel => exact ⟨_, (false), (by first | rfl | (simp; done) | (simp [*]; done)), H', ⟨by first | omega | exact Nat.le_refl _⟩, ⟨by (with_reducible repeat (first | refine blk_drewN ?_ _ | refine blk_drew ?_ | refine blk_alloc ?_ _)); refine blk_far ?_ NB101_113.out _; (with_reducible repeat (first | refine blk_drewN ?_ _ | refine blk_drew ?_ | refine blk_alloc ?_ _)); refine blk_far ?_ NB101_113.out _; (with_reducible repeat (first | refine blk_drewN ?_ _ | refine blk_drew ?_ | refine blk_alloc ?_ _)); refine blk_far ?_ NB101_113.out _; (with_reducible repeat (first | refine blk_drewN ?_ _ | refine blk_drew ?_ | refine blk_alloc ?_ _)); refine blk_far ?_ NB101_113.out _; (with_reducible repeat (first | refine blk_drewN ?_ _ | refine blk_drew ?_ | refine blk_alloc ?_ _)); exact BK101.out⟩, ⟨by (with_reducible repeat (first | refine blk_drewN ?_ _ | refine blk_drew ?_ | refine blk_alloc ?_ _)); (try refine blk_put (cs := #[.int .u8 t109, .slice none 0 0, .slice none 0 0, .int .i64 0]) ?_ 3 _ rfl); (with_reducible repeat (first | refine blk_drewN ?_ _ | refine blk_drew ?_ | refine blk_alloc ?_ _)); (try refine blk_put (cs := #[.int .u8 t109, .slice none 0 0, .slice none 0 0, .int .i64 0]) ?_ 2 _ rfl); (with_reducible repeat (first | refine blk_drewN ?_ _ | refine blk_drew ?_ | refine blk_alloc ?_ _)); (try refine blk_put (cs := #[.int .u8 t109, .slice none 0 0, .slice none 0 0, .int .i64 0]) ?_ 1 _ rfl); (with_reducible repeat (first | refine blk_drewN ?_ _ | refine blk_drew ?_ | refine blk_alloc ?_ _)); refine blk_put (cs := #[.int .u8 0, .slice none 0 0, .slice none 0 0, .int .i64 0]) ?_ 0 _ rfl; (with_reducible repeat (first | refine blk_drewN ?_ _ | refine blk_drew ?_ | refine blk_alloc ?_ _)); exact BK113.out⟩, ⟨by repeat (first | (with_reducible first | exact HI102.out | apply IsS56.alloc | apply IsS56.drewN | apply IsS56.drew | apply IsS56.set_1 | apply IsS56.set_2 | apply IsS56.set_3 | refine IsS56.far ?_ NB102_101.out _ | refine IsS56.far ?_ NB102_113.out _) | exact HI102.out)⟩, ⟨by repeat (first | (with_reducible first | exact HB.out | apply below_alloc | apply pw_below_drewN | apply below_drew1 | refine below_set ?_ (IsS56.ge HI102.out) | refine below_set ?_ GE101.out | refine below_set ?_ GE113.out) | exact HB.out)⟩⟩
   ·rw [if_neg c19] at H
    have c19b0 : (t109 == 1) = false := beq_eq_false_iff_ne.mpr c19
    have c19b1 : (t109 != 1) = true := bne_iff_ne.mpr c19
    (first | rw [c19b0] | (simp only [i64_w, i32_w]; rw [c19b0]) | skip)
    have H' := Aside0.mk H
    clear H
    have hnb23 := NB113_101.out
    have hnc23 := NB101_113.out
    have hnb24 := NB113_102.out
    have hnc24 := NB102_113.out
    have hcz25_0 : w15.cell? ⟨gb113, 0, none⟩ = some (.int .u8 0) := (blk_cell BK113.out 0).trans rfl
    have hcz25_1 : w15.cell? ⟨gb113, 1, none⟩ = some (.slice none 0 0) := (blk_cell BK113.out 1).trans rfl
    have hcz25_2 : w15.cell? ⟨gb113, 2, none⟩ = some (.slice none 0 0) := (blk_cell BK113.out 2).trans rfl
    have hcz25_3 : w15.cell? ⟨gb113, 3, none⟩ = some (.int .i64 0) := (blk_cell BK113.out 3).trans rfl
    have hfz25_0 := blk_frozen BK113.out 0
    have hfz25_1 := blk_frozen BK113.out 1
    have hfz25_2 := blk_frozen BK113.out 2
    have hfz25_3 := blk_frozen BK113.out 3
    go_wp2
    go_meet
    case rel => exact ⟨_, ((t109 != 2)), (by first | rfl | (simp; done) | (simp [*]; done)), H', ⟨by first | omega | exact Nat.le_refl _⟩, ⟨by (with_reducible repeat (first | refine blk_drewN ?_ _ | refine blk_drew ?_ | refine blk_alloc ?_ _)); refine blk_far ?_ NB101_113.out _; (with_reducible repeat (first | refine blk_drewN ?_ _ | refine blk_drew ?_ | refine blk_alloc ?_ _)); refine blk_far ?_ NB101_113.out _; (with_reducible repeat (first | refine blk_drewN ?_ _ | refine blk_drew ?_ | refine blk_alloc ?_ _)); refine blk_far ?_ NB101_113.out _; (with_reducible repeat (first | refine blk_drewN ?_ _ | refine blk_drew ?_ | refine blk_alloc ?_ _)); refine blk_far ?_ NB101_113.out _; (with_reducible repeat (first | refine blk_drewN ?_ _ | refine blk_drew ?_ | refine blk_alloc ?_ _)); exact BK101.out⟩, ⟨by (with_reducible repeat (first | refine blk_drewN ?_ _ | refine blk_drew ?_ | refine blk_alloc ?_ _)); (try refine blk_put (cs := #[.int .u8 t109, .slice none 0 0, .slice none 0 0, .int .i64 0]) ?_ 3 _ rfl); (with_reducible repeat (first | refine blk_drewN ?_ _ | refine blk_drew ?_ | refine blk_alloc ?_ _)); (try refine blk_put (cs := #[.int .u8 t109, .slice none 0 0, .slice none 0 0, .int .i64 0]) ?_ 2 _ rfl); (with_reducible repeat (first | refine blk_drewN ?_ _ | refine blk_drew ?_ | refine blk_alloc ?_ _)); (try refine blk_put (cs := #[.int .u8 t109, .slice none 0 0, .slice none 0 0, .int .i64 0]) ?_ 1 _ rfl); (with_reducible repeat (first | refine blk_drewN ?_ _ | refine blk_drew ?_ | refine blk_alloc ?_ _)); refine blk_put (cs := #[.int .u8 0, .slice none 0 0, .slice none 0 0, .int .i64 0]) ?_ 0 _ rfl; (with_reducible repeat (first | refine blk_drewN ?_ _ | refine blk_drew ?_ | refine blk_alloc ?_ _)); exact BK113.out⟩, ⟨by repeat (first | (with_reducible first | exact HI102.out | apply IsS56.alloc | apply IsS56.drewN | apply IsS56.drew | apply IsS56.set_1 | apply IsS56.set_2 | apply IsS56.set_3 | refine IsS56.far ?_ NB102_101.out _ | refine IsS56.far ?_ NB102_113.out _) | exact HI102.out)⟩, ⟨by repeat (first | (with_reducible first | exact HB.out | apply below_alloc | apply pw_below_drewN | apply below_drew1 | refine below_set ?_ (IsS56.ge HI102.out) | refine below_set ?_ GE101.out | refine below_set ?_ GE113.out) | exact HB.out)⟩⟩
  case rest =>
   clear HC8
   try clear c1
   try clear c2
   try clear c2b0
   try clear c2b1
   try clear p2
   try clear c3
   try clear c16
   try clear c17
   try clear c19
   try clear c19b0
   try clear c19b1
   try clear c20
   try clear c21
   try clear c23
   try clear c24
   try clear hcz13_0
   try clear hcz13_1
   try clear hcz13_2
   try clear hcz13_3
   try clear hcz18_0
   try clear hcz18_1
   try clear hcz18_2
   try clear hcz18_3
   try clear hcz22_0
   try clear hcz22_1
   try clear hcz22_2
   try clear hcz22_3
   try clear hcz25_0
   try clear hcz25_1
   try clear hcz25_2
   try clear hcz25_3
   try clear hcz4_0
   try clear hcz4_1
   try clear hcz4_2
   try clear hcz4_3
   try clear hfz13_1
   try clear hfz13_2
   try clear hfz13_3
   try clear hfz18_0
   try clear hfz18_1
   try clear hfz18_2
   try clear hfz18_3
   try clear hfz22_0
   try clear hfz22_1
   try clear hfz22_2
   try clear hfz22_3
   try clear hfz25_0
   try clear hfz25_1
   try clear hfz25_2
   try clear hfz25_3
   try clear hfz4_0
   try clear hfz4_1
   try clear hfz4_2
   try clear hfz4_3
   obtain ⟨kq, x38_7, rfl, HA, HJ7, BK101, BK113, HI102, HB⟩ := hcut
   cases kq with
   | zero => exact absurd HA.out (by simp [vouchref21_Decode.j0])
   | succ kj7 =>
    have H := HA.out
    clear HA
    simp only [vouchref21_Decode.j0] at H
    have HC26 := Aside0.mk H
    clear H
    go_upto_if 38 with (fail)
    go_cut [] (fun wc => ∃ (kq : Nat) (x103001_25 : Int) (x103002_25 : Int) (x103003_25 : Int), Aside0 (vouchref21_Decode.j1 kq l0 l0 x103001_25 x103002_25 x103003_25 t109 0 = some (r1, r2, r3, r4, r5, r6)) ∧ Aside0 (kq ≤ kj7) ∧ Aside0 (wc.heap[gb101]? = some (.cells #[.int .u8 0, (.slice none 0 0), (.slice none 0 0), .int .i64 0] 25 (0, 0))) ∧ Aside0 (wc.heap[gb113]? = some (.cells #[.int .u8 t109, (.slice none 0 0), (.slice none 0 0), .int .i64 0] 25 (0, 0))) ∧ Aside0 (IsS56 w wc gb102 l0 x103001_25 x103002_25 x103003_25) ∧ Aside0 (Below w.heap.size w wc))
    case first =>
     have H := HC26.out
     clear HC26
     by_cases c27 : x38_7 = true
     ·subst c27
      have H1 : ((vouchref21_reader_fail.f l0 t110 t111 t112 210 t106).bind fun bt114 => (vouchref21_Decode.j1 kj7 l0 l0 bt114.1 bt114.2.1 bt114.2.2 t109 0)) = some (r1, r2, r3, r4, r5, r6) := by rw [if_pos rfl] at H; exact H
      clear H
      have H := H1
      clear H1
      replace H := Option.bind_eq_some_iff.mp H
      obtain ⟨⟨t114, t115, t116⟩, A280, H⟩ := H
      replace H : (vouchref21_Decode.j1 kj7 l0 l0 t114 t115 t116 t109 0) = some (r1, r2, r3, r4, r5, r6) := H
      have A28 := Aside0.mk A280
      clear A280
      have H' := Aside0.mk H
      clear H
      go_wp2_with (first | ((with_reducible refine gate_callee (f := 37) rfl ?_); refine goesL_ (some 41) rfl rfl Try.func37 (by kernel_rfl) rfl #[.pointer (some ⟨gb102, 0, none⟩), .int .i64 210, .int .i64 t106] rfl (by (try simp only [List.map_toArray, List.map_cons, List.map_nil]); first | done | rfl | (simp only [List.length_drop, List.length_take]; rfl)) ?_; (with_reducible refine (vouchref21_reader_fail.calls gb102 l0 t110 t111 t112 210 t106 t114 t115 t116 w _ ?side1 ?side2 A28.out).mono ?_); (case side1 => repeat (first | (with_reducible first | exact HI102.out | apply IsS56.alloc | apply IsS56.drewN | apply IsS56.drew | apply IsS56.set_1 | apply IsS56.set_2 | apply IsS56.set_3 | refine IsS56.far ?_ NB102_101.out _ | refine IsS56.far ?_ NB102_113.out _) | exact HI102.out)); (case side2 => repeat (first | (with_reducible first | exact HB.out | apply below_alloc | apply pw_below_drewN | apply below_drew1 | refine below_set ?_ (IsS56.ge HI102.out) | refine below_set ?_ GE101.out | refine below_set ?_ GE113.out) | exact HB.out)); rintro e w29 ⟨rfl, hi, hb, hk⟩; refine ⟨_, rfl, ?_⟩; have n0_ := Aside0.mk (KeepBut.blk hk (g' := gb101) (o := .cells #[.int .u8 0, .slice none 0 0, .slice none 0 0, .int .i64 0] 25 (0, 0)) (bk BK101) NB101_102.out (by simp)); have n1_ := Aside0.mk (KeepBut.blk hk (g' := gb113) (o := .cells #[.int .u8 t109, .slice none 0 0, .slice none 0 0, .int .i64 0] 25 (0, 0)) (bk BK113) NB113_102.out (by simp)); have n2_ := Aside0.mk (hb); have n3_ := Aside0.mk (hi); clear BK101; clear BK113; clear HB; clear HI102; have BK101 := n0_; have BK113 := n1_; have HB := n2_; have HI102 := n3_; clear n0_ n1_ n2_ n3_; (try clear hb); (try clear hb2); (try clear hk); (try clear hi)))
      go_meet
      case rel => exact ⟨_, (t114), (t115), (t116), H', ⟨by have := HJ7.out; first | omega | exact Nat.le_refl _⟩, ⟨by (with_reducible repeat (first | refine blk_drewN ?_ _ | refine blk_drew ?_ | refine blk_alloc ?_ _)); exact BK101.out⟩, ⟨by (with_reducible repeat (first | refine blk_drewN ?_ _ | refine blk_drew ?_ | refine blk_alloc ?_ _)); exact BK113.out⟩, ⟨by repeat (first | (with_reducible first | exact HI102.out | apply IsS56.alloc | apply IsS56.drewN | apply IsS56.drew | apply IsS56.set_1 | apply IsS56.set_2 | apply IsS56.set_3 | refine IsS56.far ?_ NB102_101.out _ | refine IsS56.far ?_ NB102_113.out _) | exact HI102.out)⟩, ⟨by repeat (first | (with_reducible first | exact HB.out | apply below_alloc | apply pw_below_drewN | apply below_drew1 | refine below_set ?_ (IsS56.ge HI102.out) | refine below_set ?_ GE101.out | refine below_set ?_ GE113.out) | exact HB.out)⟩⟩
     ·replace c27 := Bool.eq_false_iff.mpr c27
      subst c27
      have H1 : (vouchref21_Decode.j1 kj7 l0 l0 t110 t111 t112 t109 0) = some (r1, r2, r3, r4, r5, r6) := by rw [if_neg (show ¬ (false = true) by decide)] at H; exact H
      clear H
      have H := H1
      clear H1
      have H' := Aside0.mk H
      clear H
      go_wp2
      go_meet
      case rel => exact ⟨_, (t110), (t111), (t112), H', ⟨by have := HJ7.out; first | omega | exact Nat.le_refl _⟩, ⟨by (with_reducible repeat (first | refine blk_drewN ?_ _ | refine blk_drew ?_ | refine blk_alloc ?_ _)); exact BK101.out⟩, ⟨by (with_reducible repeat (first | refine blk_drewN ?_ _ | refine blk_drew ?_ | refine blk_alloc ?_ _)); exact BK113.out⟩, ⟨by repeat (first | (with_reducible first | exact HI102.out | apply IsS56.alloc | apply IsS56.drewN | apply IsS56.drew | apply IsS56.set_1 | apply IsS56.set_2 | apply IsS56.set_3 | refine IsS56.far ?_ NB102_101.out _ | refine IsS56.far ?_ NB102_113.out _) | exact HI102.out)⟩, ⟨by repeat (first | (with_reducible first | exact HB.out | apply below_alloc | apply pw_below_drewN | apply below_drew1 | refine below_set ?_ (IsS56.ge HI102.out) | refine below_set ?_ GE101.out | refine below_set ?_ GE113.out) | exact HB.out)⟩⟩
    case rest =>
     clear HC26
     try clear c1
     try clear c2
     try clear c2b0
     try clear c2b1
     try clear p2
     try clear c3
     try clear c16
     try clear c17
     try clear c19
     try clear c19b0
     try clear c19b1
     try clear c20
     try clear c21
     try clear c23
     try clear c24
     try clear c27
     try clear hcz13_0
     try clear hcz13_1
     try clear hcz13_2
     try clear hcz13_3
     try clear hcz18_0
     try clear hcz18_1
     try clear hcz18_2
     try clear hcz18_3
     try clear hcz22_0
     try clear hcz22_1
     try clear hcz22_2
     try clear hcz22_3
     try clear hcz25_0
     try clear hcz25_1
     try clear hcz25_2
     try clear hcz25_3
     try clear hcz4_0
     try clear hcz4_1
     try clear hcz4_2
     try clear hcz4_3
     try clear hfz13_1
     try clear hfz13_2
     try clear hfz13_3
     try clear hfz18_0
     try clear hfz18_1
     try clear hfz18_2
     try clear hfz18_3
     try clear hfz22_0
     try clear hfz22_1
     try clear hfz22_2
     try clear hfz22_3
     try clear hfz25_0
     try clear hfz25_1
     try clear hfz25_2
     try clear hfz25_3
     try clear hfz4_0
     try clear hfz4_1
     try clear hfz4_2
     try clear hfz4_3
     try clear p2
     obtain ⟨kq, x103001_25, x103002_25, x103003_25, HA, HJ25, BK101, BK113, HI102, HB⟩ := hcut
     cases kq with
     | zero => exact absurd HA.out (by simp [vouchref21_Decode.j1])
     | succ kj25 =>
      have H := HA.out
      clear HA
      simp only [vouchref21_Decode.j1] at H
      replace H := Option.bind_eq_some_iff.mp H
      obtain ⟨⟨t117, t118, t119, t120⟩, A300, H⟩ := H
      replace H : ((vouchref21_reader_count.f kj25 l0 t118 t119 t120 8192).bind fun bt121 => (vouchref21_Decode.l0 kj25 l0 bt121.1 0 l0 bt121.2.1 bt121.2.2.1 bt121.2.2.2 t109 ([] : List ByteArray) t117)) = some (r1, r2, r3, r4, r5, r6) := H
      have A30 := Aside0.mk A300
      clear A300
      replace H := Option.bind_eq_some_iff.mp H
      obtain ⟨⟨t121, t122, t123, t124⟩, A310, H⟩ := H
      replace H : (vouchref21_Decode.l0 kj25 l0 t121 0 l0 t122 t123 t124 t109 ([] : List ByteArray) t117) = some (r1, r2, r3, r4, r5, r6) := H
      have A31 := Aside0.mk A310
      clear A310
      have HC32 := Aside0.mk H
      clear H
      go_upto_block 0 with (first | ((with_reducible refine gate_callee (f := 38) rfl ?_); refine goesL_ (some 43) rfl rfl Try.func38 (by kernel_rfl) rfl #[.pointer (some ⟨gb102, 0, none⟩)] rfl (by (try simp only [List.map_toArray, List.map_cons, List.map_nil]); first | done | rfl | (simp only [List.length_drop, List.length_take]; rfl)) ?_; (with_reducible refine (vouchref21_reader_number.calls kj25 gb102 l0 x103001_25 x103002_25 x103003_25 t117 t118 t119 t120 w _ ?side1 ?side2 A30.out).mono ?_); (case side1 => repeat (first | (with_reducible first | exact HI102.out | apply IsS56.alloc | apply IsS56.drewN | apply IsS56.drew | apply IsS56.set_1 | apply IsS56.set_2 | apply IsS56.set_3 | refine IsS56.far ?_ NB102_101.out _ | refine IsS56.far ?_ NB102_113.out _) | exact HI102.out)); (case side2 => repeat (first | (with_reducible first | exact HB.out | apply below_alloc | apply pw_below_drewN | apply below_drew1 | refine below_set ?_ (IsS56.ge HI102.out) | refine below_set ?_ GE101.out | refine below_set ?_ GE113.out) | exact HB.out)); rintro e w33 ⟨rfl, hi, hb, hk⟩; refine ⟨_, rfl, ?_⟩; have n0_ := Aside0.mk (KeepBut.blk hk (g' := gb101) (o := .cells #[.int .u8 0, .slice none 0 0, .slice none 0 0, .int .i64 0] 25 (0, 0)) (bk BK101) NB101_102.out (by simp)); have n1_ := Aside0.mk (KeepBut.blk hk (g' := gb113) (o := .cells #[.int .u8 t109, .slice none 0 0, .slice none 0 0, .int .i64 0] 25 (0, 0)) (bk BK113) NB113_102.out (by simp)); have n2_ := Aside0.mk (hb); have n3_ := Aside0.mk (hi); clear BK101; clear BK113; clear HB; clear HI102; have BK101 := n0_; have BK113 := n1_; have HB := n2_; have HI102 := n3_; clear n0_ n1_ n2_ n3_; (try clear hb); (try clear hb2); (try clear hk); (try clear hi); have hnb34 := NB113_101.out; have hnc34 := NB101_113.out; have hnb35 := NB113_102.out; have hnc35 := NB102_113.out; have hcz36_0 : w33.cell? ⟨gb113, 0, none⟩ = some (.int .u8 t109) := (blk_cell BK113.out 0).trans rfl; have hcz36_1 : w33.cell? ⟨gb113, 1, none⟩ = some (.slice none 0 0) := (blk_cell BK113.out 1).trans rfl; have hcz36_2 : w33.cell? ⟨gb113, 2, none⟩ = some (.slice none 0 0) := (blk_cell BK113.out 2).trans rfl; have hcz36_3 : w33.cell? ⟨gb113, 3, none⟩ = some (.int .i64 0) := (blk_cell BK113.out 3).trans rfl; have hfz36_0 := blk_frozen BK113.out 0; have hfz36_1 := blk_frozen BK113.out 1; have hfz36_2 := blk_frozen BK113.out 2; have hfz36_3 := blk_frozen BK113.out 3) | ((with_reducible refine gate_callee (f := 39) rfl ?_); refine goesL_ (some 46) rfl rfl Try.func39 (by kernel_rfl) rfl #[.pointer (some ⟨gb102, 0, none⟩), .int .i64 8192] rfl (by (try simp only [List.map_toArray, List.map_cons, List.map_nil]); first | done | rfl | (simp only [List.length_drop, List.length_take]; rfl)) ?_; (with_reducible refine (vouchref21_reader_count.calls kj25 gb102 l0 t118 t119 t120 8192 t121 t122 t123 t124 w _ ?side1 ?side2 A31.out).mono ?_); (case side1 => repeat (first | (with_reducible first | exact HI102.out | apply IsS56.alloc | apply IsS56.drewN | apply IsS56.drew | apply IsS56.set_1 | apply IsS56.set_2 | apply IsS56.set_3 | refine IsS56.far ?_ NB102_101.out _ | refine IsS56.far ?_ NB102_113.out _) | exact HI102.out)); (case side2 => repeat (first | (with_reducible first | exact HB.out | apply below_alloc | apply pw_below_drewN | apply below_drew1 | refine below_set ?_ (IsS56.ge HI102.out) | refine below_set ?_ GE101.out | refine below_set ?_ GE113.out) | exact HB.out)); rintro e w37 ⟨rfl, hi, hb, hk⟩; refine ⟨_, rfl, ?_⟩; have n0_ := Aside0.mk (KeepBut.blk hk (g' := gb101) (o := .cells #[.int .u8 0, .slice none 0 0, .slice none 0 0, .int .i64 0] 25 (0, 0)) (by (with_reducible repeat (first | refine blk_drewN ?_ _ | refine blk_drew ?_ | refine blk_alloc ?_ _)); refine blk_far ?_ NB101_113.out _; (with_reducible repeat (first | refine blk_drewN ?_ _ | refine blk_drew ?_ | refine blk_alloc ?_ _)); exact BK101.out) NB101_102.out (by simp)); have n1_ := Aside0.mk (KeepBut.blk hk (g' := gb113) (o := .cells #[.int .u8 t109, .slice none 0 0, .slice none 0 0, .int .i64 t117] 25 (0, 0)) (by (with_reducible repeat (first | refine blk_drewN ?_ _ | refine blk_drew ?_ | refine blk_alloc ?_ _)); refine blk_put (cs := #[.int .u8 t109, .slice none 0 0, .slice none 0 0, .int .i64 0]) ?_ 3 _ rfl; (with_reducible repeat (first | refine blk_drewN ?_ _ | refine blk_drew ?_ | refine blk_alloc ?_ _)); exact BK113.out) NB113_102.out (by simp)); have n2_ := Aside0.mk (hb); have n3_ := Aside0.mk (hi); clear BK101; clear BK113; clear HB; clear HI102; have BK101 := n0_; have BK113 := n1_; have HB := n2_; have HI102 := n3_; clear n0_ n1_ n2_ n3_; (try clear hb); (try clear hb2); (try clear hk); (try clear hi)))
      (try simp only [Act.put, List.setIfInBounds_toArray, List.set_cons_zero, List.set_cons_succ])
      go_cut [] (fun wc => ∃ (kq : Nat) (x103001_31 : Int) (x103002_31 : Int) (x103003_31 : Int) (x114001_31 : List ByteArray) (u114001 : Value), Aside0 (vouchref21_Decode.j3 kq l0 l0 x103001_31 x103002_31 x103003_31 t109 x114001_31 t117 = some (r1, r2, r3, r4, r5, r6)) ∧ Aside0 (kq ≤ kj25) ∧ Aside0 (Kd.R Kd.string 9 wc w.heap.size (fun _ => True) u114001 x114001_31) ∧ Aside0 (wc.heap[gb101]? = some (.cells #[.int .u8 0, (.slice none 0 0), (.slice none 0 0), .int .i64 0] 25 (0, 0))) ∧ Aside0 (wc.heap[gb113]? = some (.cells #[.int .u8 t109, u114001, (.slice none 0 0), .int .i64 t117] 25 (0, 0))) ∧ Aside0 (IsS56 w wc gb102 l0 x103001_31 x103002_31 x103003_31) ∧ Aside0 (Below w.heap.size w wc))
      case first =>
       have H := HC32.out
       clear HC32
       have H' := Aside0.mk H
       clear H
       go_wp2
       go_loopg [9] kj25 (fun kq v9 w' => ∃ (x9_3 : Int) (x103001_3 : Int) (x103002_3 : Int) (x103003_3 : Int) (x114001_3 : List ByteArray) (u114001 : Value), v9 = .int .i64 x9_3 ∧ Aside0 (vouchref21_Decode.l0 kq l0 t121 x9_3 l0 x103001_3 x103002_3 x103003_3 t109 x114001_3 t117 = some (r1, r2, r3, r4, r5, r6)) ∧ Aside0 (kq ≤ kj25) ∧ Aside0 (Kd.R Kd.string 9 w' w.heap.size (fun _ => True) u114001 x114001_3) ∧ Aside0 (w'.heap[gb101]? = some (.cells #[.int .u8 0, (.slice none 0 0), (.slice none 0 0), .int .i64 0] 25 (0, 0))) ∧ Aside0 (w'.heap[gb113]? = some (.cells #[.int .u8 t109, u114001, (.slice none 0 0), .int .i64 t117] 25 (0, 0))) ∧ Aside0 (IsS56 w w' gb102 l0 x103001_3 x103002_3 x103003_3) ∧ Aside0 (Below w.heap.size w w'))
       case atStart => exact ⟨(0), (t122), (t123), (t124), (([] : List ByteArray)), (.slice none 0 0), (by first | rfl | (simp; done) | (simp [*]; done)), H', ⟨Nat.le_refl _⟩, ⟨by first | exact Kd.R_nil _ _ _ _ _ | exact Kd.N_nil _ _ _ _ _ | exact Kd.V_nil _ _ _ _ _ | exact Kd.Q_nil _ _ _ _ _ | exact Kd.S_nil _ _ _ _ _⟩, ⟨by (with_reducible repeat (first | refine blk_drewN ?_ _ | refine blk_drew ?_ | refine blk_alloc ?_ _)); exact BK101.out⟩, ⟨by (with_reducible repeat (first | refine blk_drewN ?_ _ | refine blk_drew ?_ | refine blk_alloc ?_ _)); exact BK113.out⟩, ⟨by repeat (first | (with_reducible first | exact HI102.out | apply IsS56.alloc | apply IsS56.drewN | apply IsS56.drew | apply IsS56.set_1 | apply IsS56.set_2 | apply IsS56.set_3 | refine IsS56.far ?_ NB102_101.out _ | refine IsS56.far ?_ NB102_113.out _) | exact HI102.out)⟩, ⟨by repeat (first | (with_reducible first | exact HB.out | apply below_alloc | apply pw_below_drewN | apply below_drew1 | refine below_set ?_ (IsS56.ge HI102.out) | refine below_set ?_ GE101.out | refine below_set ?_ GE113.out) | exact HB.out)⟩⟩
       case round =>
        clear H'
        try clear c1
        try clear c2
        try clear c2b0
        try clear c2b1
        try clear p2
        try clear c3
        try clear c16
        try clear c17
        try clear c19
        try clear c19b0
        try clear c19b1
        try clear c20
        try clear c21
        try clear c23
        try clear c24
        try clear c27
        try clear c34
        try clear c35
        try clear c36
        try clear c37
        try clear hcz13_0
        try clear hcz13_1
        try clear hcz13_2
        try clear hcz13_3
        try clear hcz18_0
        try clear hcz18_1
        try clear hcz18_2
        try clear hcz18_3
        try clear hcz22_0
        try clear hcz22_1
        try clear hcz22_2
        try clear hcz22_3
        try clear hcz25_0
        try clear hcz25_1
        try clear hcz25_2
        try clear hcz25_3
        try clear hcz36_0
        try clear hcz36_1
        try clear hcz36_2
        try clear hcz36_3
        try clear hcz4_0
        try clear hcz4_1
        try clear hcz4_2
        try clear hcz4_3
        try clear hfz13_1
        try clear hfz13_2
        try clear hfz13_3
        try clear hfz18_0
        try clear hfz18_1
        try clear hfz18_2
        try clear hfz18_3
        try clear hfz22_0
        try clear hfz22_1
        try clear hfz22_2
        try clear hfz22_3
        try clear hfz25_0
        try clear hfz25_1
        try clear hfz25_2
        try clear hfz25_3
        try clear hfz36_0
        try clear hfz36_1
        try clear hfz36_2
        try clear hfz36_3
        try clear hfz4_0
        try clear hfz4_1
        try clear hfz4_2
        try clear hfz4_3
        try clear p2
        obtain ⟨x9_3, x103001_3, x103002_3, x103003_3, x114001_3, u114001, rfl, HA, HK3, HO_114001, BK101, BK113, HI102, HB⟩ := hrel
        cases gk with
        | zero => exact absurd HA.out (by simp [vouchref21_Decode.l0])
        | succ k3 =>
         have H := HA.out
         clear HA
         simp only [vouchref21_Decode.l0] at H
         by_cases c38 : x9_3 < t121
         ·rw [if_pos c38] at H
          have c38b0 : decide (x9_3 < t121) = true := decide_eq_true c38
          clear c38
          (first | rw [c38b0] | (simp only [i64_w, i32_w]; rw [c38b0]) | skip)
          by_cases c39 : x103002_3 = 0
          ·rw [if_pos c39] at H
           have c39b0 : (x103002_3 == 0) = true := beq_iff_eq.mpr c39
           have c39b1 : (x103002_3 != 0) = false := bne_eq_false_iff_eq.mpr c39
           clear c39
           replace H := Option.bind_eq_some_iff.mp H
           obtain ⟨⟨t125, t126, t127, t128⟩, A400, H⟩ := H
           replace H : (if x114001_3.length < 8796093022208 then (vouchref21_Decode.l0 k3 l0 t121 (wrap64 (x9_3 + 1)) l0 t126 t127 t128 t109 (x114001_3 ++ [t125]) t117) else (none)) = some (r1, r2, r3, r4, r5, r6) := H
           have A40 := Aside0.mk A400
           clear A400
           by_cases c41 : x114001_3.length < 8796093022208
           ·rw [if_pos c41] at H
            have LMc41 := Aside0.mk c41
            clear c41
            obtain ⟨y129, hy129⟩ : ∃ y_ : List ByteArray, y_ = (x114001_3 ++ [t125]) := ⟨_, rfl⟩
            replace H : (vouchref21_Decode.l0 k3 l0 t121 (wrap64 (x9_3 + 1)) l0 t126 t127 t128 t109 y129 t117) = some (r1, r2, r3, r4, r5, r6) := by first | (rw [hy129]; with_reducible exact H) | (have H2_ := (Option.bind_some _ _).symm.trans H; rw [hy129]; with_reducible exact H2_) | (have H2_ := (Option.bind_some _ _).symm.trans H; with_reducible exact H2_) | with_reducible exact H | (rw [hy129]; exact H) | exact H
            have Ny129 := Aside0.mk hy129
            clear hy129
            have H' := Aside0.mk H
            clear H
            obtain ⟨ASz42_0, cSz42_0, HGz42, hgz42, ⟨HSz42_0, HTz42_0⟩⟩ := HI102.out
            have hcz42_0 := cellS56_0 HGz42
            have hcz42_1 := cellS56_1 HGz42
            have hcz42_2 := cellS56_2 HGz42
            have hcz42_3 := cellS56_3 HGz42
            have hfz42_1 := blk_frozen HGz42 1
            have hfz42_2 := blk_frozen HGz42 2
            have hfz42_3 := blk_frozen HGz42 3
            clear HGz42 hgz42
            go_wp2_with (first | ((with_reducible refine gate_callee (f := 40) rfl ?_); refine goesL_ (some 60) rfl rfl Try.func40 (by kernel_rfl) rfl #[.pointer (some ⟨gb102, 0, none⟩)] rfl (by (try simp only [List.map_toArray, List.map_cons, List.map_nil]); first | done | rfl | (simp only [List.length_drop, List.length_take]; rfl)) ?_; (with_reducible refine (vouchref21_reader_text.calls k3 gb102 l0 x103001_3 x103002_3 x103003_3 t125 t126 t127 t128 w _ ?side1 ?side2 A40.out).mono ?_); (case side1 => repeat (first | (with_reducible first | exact HI102.out | apply IsS56.alloc | apply IsS56.drewN | apply IsS56.drew | apply IsS56.set_1 | apply IsS56.set_2 | apply IsS56.set_3 | refine IsS56.far ?_ NB102_101.out _ | refine IsS56.far ?_ NB102_113.out _) | exact HI102.out)); (case side2 => repeat (first | (with_reducible first | exact HB.out | apply below_alloc | apply pw_below_drewN | apply below_drew1 | refine below_set ?_ (IsS56.ge HI102.out) | refine below_set ?_ GE101.out | refine below_set ?_ GE113.out) | exact HB.out)); rintro e w43 ⟨rfl, hi, hb, hk⟩; refine ⟨_, rfl, ?_⟩; have n0_ := Aside0.mk (Kd.R_mono (Kd.R_keep (IsS56.apart (show IsS56 w _ gb102 l0 x103001_3 x103002_3 x103003_3 from by repeat (first | (with_reducible first | exact HI102.out | apply IsS56.alloc | apply IsS56.drewN | apply IsS56.drew | apply IsS56.set_1 | apply IsS56.set_2 | apply IsS56.set_3 | refine IsS56.far ?_ NB102_101.out _ | refine IsS56.far ?_ NB102_113.out _) | exact HI102.out)) (kr HO_114001) (by decide)) hk (fun _ h => h.2)) (fun _ h => h.1)); have n1_ := Aside0.mk (KeepBut.blk hk (g' := gb101) (o := .cells #[.int .u8 0, .slice none 0 0, .slice none 0 0, .int .i64 0] 25 (0, 0)) (bk BK101) NB101_102.out (by simp)); have n2_ := Aside0.mk (KeepBut.blk hk (g' := gb113) (o := .cells #[.int .u8 t109, u114001, .slice none 0 0, .int .i64 t117] 25 (0, 0)) (bk BK113) NB113_102.out (by simp)); have n3_ := Aside0.mk (hb); have n4_ := Aside0.mk (hi); clear HO_114001; clear BK101; clear BK113; clear HB; clear HI102; have HO_114001 := n0_; have BK101 := n1_; have BK113 := n2_; have HB := n3_; have HI102 := n4_; clear n0_ n1_ n2_ n3_ n4_; (try clear hb); (try clear hb2); (try clear hk); (try clear hi); have hnb44 := NB113_101.out; have hnc44 := NB101_113.out; have hnb45 := NB113_102.out; have hnc45 := NB102_113.out; have hcz46_0 : w43.cell? ⟨gb113, 0, none⟩ = some (.int .u8 t109) := (blk_cell BK113.out 0).trans rfl; have hcz46_1 : w43.cell? ⟨gb113, 1, none⟩ = some (u114001) := (blk_cell BK113.out 1).trans rfl; have hcz46_2 : w43.cell? ⟨gb113, 2, none⟩ = some (.slice none 0 0) := (blk_cell BK113.out 2).trans rfl; have hcz46_3 : w43.cell? ⟨gb113, 3, none⟩ = some (.int .i64 t117) := (blk_cell BK113.out 3).trans rfl; have hfz46_0 := blk_frozen BK113.out 0; have hfz46_1 := blk_frozen BK113.out 1; have hfz46_2 := blk_frozen BK113.out 2; have hfz46_3 := blk_frozen BK113.out 3) | ((first | (with_reducible refine gate_builtin (b := .append) (xs := #[.tmp 62, .tmp 64]) rfl ?_) | (refine gate_builtin (b := .append) (xs := #[.tmp 62, .tmp 64]) rfl ?_)); at_builtin; refine Kd.R_append Kd.string (w0 := w) w.heap.size rfl (.tmp 62) (.tmp 64) 22 9 (.string ⟨#[]⟩) 16 rfl Try.underlying22 info9 rfl (by decide) (by omega) u114001 x114001_3 t125 [.string t125] (fun _ => True) (fun _ => False) rfl rfl ?aP (fun _ hk => hk.elim) ?aF ?aO ?aB ?aS ?aL ?_; (case aP => exact rfl); (case aB => exact (by repeat (first | (with_reducible first | exact HB.out | apply below_alloc | apply pw_below_drewN | apply below_drew1 | refine below_set ?_ (IsS56.ge HI102.out) | refine below_set ?_ GE101.out | refine below_set ?_ GE113.out) | exact HB.out))); (case aF => exact (fun _ _ => trivial)); (case aO => exact (kr HO_114001)); (case aS => exact (below_size (by repeat (first | (with_reducible first | exact HB.out | apply below_alloc | apply pw_below_drewN | apply below_drew1 | refine below_set ?_ (IsS56.ge HI102.out) | refine below_set ?_ GE101.out | refine below_set ?_ GE113.out) | exact HB.out)))); (case aL => have := LMc41.out; omega); intro v130 w47 ho hb hg hat; rw [← Ny129.out] at ho; have n0_ := Aside0.mk (blk_grown (g := gb101) (o := .cells #[.int .u8 0, .slice none 0 0, .slice none 0 0, .int .i64 0] 25 (0, 0)) (bk BK101) hg (Kd.R_ne HO_114001.out BK101.out (by decide))); have n1_ := Aside0.mk (blk_grown (g := gb113) (o := .cells #[.int .u8 t109, u114001, .slice none 0 0, .int .i64 t117] 25 (0, 0)) (bk BK113) hg (Kd.R_ne HO_114001.out BK113.out (by decide))); have n2_ := Aside0.mk (IsS56.grown (vouchref21_Decode.like56 HI102.out (by repeat (first | (with_reducible first | exact HI102.out | apply IsS56.alloc | apply IsS56.drewN | apply IsS56.drew | apply IsS56.set_1 | apply IsS56.set_2 | apply IsS56.set_3 | refine IsS56.far ?_ NB102_101.out _ | refine IsS56.far ?_ NB102_113.out _) | exact HI102.out))) hg (IsS56.own_ne HI102.out HO_114001.out (by decide))); have n3_ := Aside0.mk (hb); have n4_ := Aside0.mk (ho); clear BK101; clear BK113; clear HI102; clear HB; clear HO_114001; have BK101 := n0_; have BK113 := n1_; have HI102 := n2_; have HB := n3_; have HO131 := n4_; clear n0_ n1_ n2_ n3_ n4_; clear ho hb hg hat; obtain ⟨Ao48, co48, eo48⟩ := Kd.R_slice HO131.out; subst eo48; have hcz49_0 : w47.cell? ⟨gb113, 0, none⟩ = some (.int .u8 t109) := (blk_cell BK113.out 0).trans rfl; have hcz49_1 : w47.cell? ⟨gb113, 1, none⟩ = some (u114001) := (blk_cell BK113.out 1).trans rfl; have hcz49_2 : w47.cell? ⟨gb113, 2, none⟩ = some (.slice none 0 0) := (blk_cell BK113.out 2).trans rfl; have hcz49_3 : w47.cell? ⟨gb113, 3, none⟩ = some (.int .i64 t117) := (blk_cell BK113.out 3).trans rfl; have hfz49_0 := blk_frozen BK113.out 0; have hfz49_1 := blk_frozen BK113.out 1; have hfz49_2 := blk_frozen BK113.out 2; have hfz49_3 := blk_frozen BK113.out 3))
            go_roundg k3
            case measure => have := HJ7.out; have := HJ25.out; have := HK3.out; omega
            case rel => exact ⟨(wrap64 (x9_3 + 1)), (t126), (t127), (t128), (y129), (.slice Ao48 y129.length co48), (by first | rfl | (simp; done) | (simp [*]; done)), H', ⟨by have := HJ7.out; have := HJ25.out; have := HK3.out; omega⟩, ⟨by (with_reducible repeat (first | apply Kd.R_alloc | apply Kd.R_drewN | apply Kd.R_drew)); exact Kd.R_mono (Kd.R_far (p := ⟨gb113, 1, none⟩) (Kd.R_types HO131.out BK113.out (by decide)) (fun _ hk => hk.2) (.slice Ao48 y129.length co48)) (fun _ hk => trivial)⟩, ⟨by (with_reducible repeat (first | refine blk_drewN ?_ _ | refine blk_drew ?_ | refine blk_alloc ?_ _)); refine blk_far ?_ NB101_113.out _; (with_reducible repeat (first | refine blk_drewN ?_ _ | refine blk_drew ?_ | refine blk_alloc ?_ _)); exact BK101.out⟩, ⟨by (with_reducible repeat (first | refine blk_drewN ?_ _ | refine blk_drew ?_ | refine blk_alloc ?_ _)); refine blk_put (cs := #[.int .u8 t109, u114001, .slice none 0 0, .int .i64 t117]) ?_ 1 _ rfl; (with_reducible repeat (first | refine blk_drewN ?_ _ | refine blk_drew ?_ | refine blk_alloc ?_ _)); exact BK113.out⟩, ⟨by repeat (first | (with_reducible first | exact HI102.out | apply IsS56.alloc | apply IsS56.drewN | apply IsS56.drew | apply IsS56.set_1 | apply IsS56.set_2 | apply IsS56.set_3 | refine IsS56.far ?_ NB102_101.out _ | refine IsS56.far ?_ NB102_113.out _) | exact HI102.out)⟩, ⟨by repeat (first | (with_reducible first | exact HB.out | apply below_alloc | apply pw_below_drewN | apply below_drew1 | refine below_set ?_ (IsS56.ge HI102.out) | refine below_set ?_ GE101.out | refine below_set ?_ GE113.out) | exact HB.out)⟩⟩
           ·rw [if_neg c41] at H
            exact absurd H (by simp)
          ·rw [if_neg c39] at H
           have c39b0 : (x103002_3 == 0) = false := beq_eq_false_iff_ne.mpr c39
           have c39b1 : (x103002_3 != 0) = true := bne_iff_ne.mpr c39
           have H' := Aside0.mk H
           clear H
           obtain ⟨ASz50_0, cSz50_0, HGz50, hgz50, ⟨HSz50_0, HTz50_0⟩⟩ := HI102.out
           have hcz50_0 := cellS56_0 HGz50
           have hcz50_1 := cellS56_1 HGz50
           have hcz50_2 := cellS56_2 HGz50
           have hcz50_3 := cellS56_3 HGz50
           have hfz50_1 := blk_frozen HGz50 1
           have hfz50_2 := blk_frozen HGz50 2
           have hfz50_3 := blk_frozen HGz50 3
           clear HGz50 hgz50
           go_wp2
           go_meet
           case rel => exact ⟨_, (x103001_3), (x103002_3), (x103003_3), (x114001_3), (u114001), H', ⟨by have := HJ7.out; have := HJ25.out; have := HK3.out; first | omega | exact Nat.le_refl _⟩, ⟨by (with_reducible repeat (first | apply Kd.R_alloc | apply Kd.R_drewN | apply Kd.R_drew)); exact HO_114001.out⟩, ⟨by (with_reducible repeat (first | refine blk_drewN ?_ _ | refine blk_drew ?_ | refine blk_alloc ?_ _)); exact BK101.out⟩, ⟨by (with_reducible repeat (first | refine blk_drewN ?_ _ | refine blk_drew ?_ | refine blk_alloc ?_ _)); exact BK113.out⟩, ⟨by repeat (first | (with_reducible first | exact HI102.out | apply IsS56.alloc | apply IsS56.drewN | apply IsS56.drew | apply IsS56.set_1 | apply IsS56.set_2 | apply IsS56.set_3 | refine IsS56.far ?_ NB102_101.out _ | refine IsS56.far ?_ NB102_113.out _) | exact HI102.out)⟩, ⟨by repeat (first | (with_reducible first | exact HB.out | apply below_alloc | apply pw_below_drewN | apply below_drew1 | refine below_set ?_ (IsS56.ge HI102.out) | refine below_set ?_ GE101.out | refine below_set ?_ GE113.out) | exact HB.out)⟩⟩
         ·rw [if_neg c38] at H
          have c38b0 : decide (x9_3 < t121) = false := decide_eq_false c38
          clear c38
          (first | rw [c38b0] | (simp only [i64_w, i32_w]; rw [c38b0]) | skip)
          have H' := Aside0.mk H
          clear H
          go_wp2
          go_meet
          case rel => exact ⟨_, (x103001_3), (x103002_3), (x103003_3), (x114001_3), (u114001), H', ⟨by have := HJ7.out; have := HJ25.out; have := HK3.out; first | omega | exact Nat.le_refl _⟩, ⟨by (with_reducible repeat (first | apply Kd.R_alloc | apply Kd.R_drewN | apply Kd.R_drew)); exact HO_114001.out⟩, ⟨by (with_reducible repeat (first | refine blk_drewN ?_ _ | refine blk_drew ?_ | refine blk_alloc ?_ _)); exact BK101.out⟩, ⟨by (with_reducible repeat (first | refine blk_drewN ?_ _ | refine blk_drew ?_ | refine blk_alloc ?_ _)); exact BK113.out⟩, ⟨by repeat (first | (with_reducible first | exact HI102.out | apply IsS56.alloc | apply IsS56.drewN | apply IsS56.drew | apply IsS56.set_1 | apply IsS56.set_2 | apply IsS56.set_3 | refine IsS56.far ?_ NB102_101.out _ | refine IsS56.far ?_ NB102_113.out _) | exact HI102.out)⟩, ⟨by repeat (first | (with_reducible first | exact HB.out | apply below_alloc | apply pw_below_drewN | apply below_drew1 | refine below_set ?_ (IsS56.ge HI102.out) | refine below_set ?_ GE101.out | refine below_set ?_ GE113.out) | exact HB.out)⟩⟩
      case rest =>
       clear HC32
       try clear c1
       try clear c2
       try clear c2b0
       try clear c2b1
       try clear p2
       try clear c3
       try clear c4
       try clear p6
       try clear c16
       try clear c17
       try clear c19
       try clear c19b0
       try clear c19b1
       try clear c20
       try clear c21
       try clear c23
       try clear c24
       try clear c27
       try clear c34
       try clear c35
       try clear c36
       try clear c37
       try clear c38
       try clear c38b0
       try clear c39
       try clear c39b0
       try clear c39b1
       try clear c40
       try clear c41
       try clear c44
       try clear c45
       try clear hcz13_0
       try clear hcz13_1
       try clear hcz13_2
       try clear hcz13_3
       try clear hcz18_0
       try clear hcz18_1
       try clear hcz18_2
       try clear hcz18_3
       try clear hcz22_0
       try clear hcz22_1
       try clear hcz22_2
       try clear hcz22_3
       try clear hcz25_0
       try clear hcz25_1
       try clear hcz25_2
       try clear hcz25_3
       try clear hcz36_0
       try clear hcz36_1
       try clear hcz36_2
       try clear hcz36_3
       try clear hcz42_0
       try clear hcz42_1
       try clear hcz42_2
       try clear hcz42_3
       try clear hcz46_0
       try clear hcz46_1
       try clear hcz46_2
       try clear hcz46_3
       try clear hcz49_0
       try clear hcz49_1
       try clear hcz49_2
       try clear hcz49_3
       try clear hcz4_0
       try clear hcz4_1
       try clear hcz4_2
       try clear hcz4_3
       try clear hcz50_0
       try clear hcz50_1
       try clear hcz50_2
       try clear hcz50_3
       try clear hfz13_1
       try clear hfz13_2
       try clear hfz13_3
       try clear hfz18_0
       try clear hfz18_1
       try clear hfz18_2
       try clear hfz18_3
       try clear hfz22_0
       try clear hfz22_1
       try clear hfz22_2
       try clear hfz22_3
       try clear hfz25_0
       try clear hfz25_1
       try clear hfz25_2
       try clear hfz25_3
       try clear hfz36_0
       try clear hfz36_1
       try clear hfz36_2
       try clear hfz36_3
       try clear hfz42_1
       try clear hfz42_2
       try clear hfz42_3
       try clear hfz46_0
       try clear hfz46_1
       try clear hfz46_2
       try clear hfz46_3
       try clear hfz49_0
       try clear hfz49_1
       try clear hfz49_2
       try clear hfz49_3
       try clear hfz4_0
       try clear hfz4_1
       try clear hfz4_2
       try clear hfz4_3
       try clear hfz50_1
       try clear hfz50_2
       try clear hfz50_3
       try clear p2
       obtain ⟨kq, x103001_31, x103002_31, x103003_31, x114001_31, u114001, HA, HJ31, HO_114001, BK101, BK113, HI102, HB⟩ := hcut
       cases kq with
       | zero => exact absurd HA.out (by simp [vouchref21_Decode.j3])
       | succ kj31 =>
        have H := HA.out
        clear HA
        simp only [vouchref21_Decode.j3] at H
        replace H := Option.bind_eq_some_iff.mp H
        obtain ⟨⟨t132, t133, t134, t135⟩, A510, H⟩ := H
        replace H : (vouchref21_Decode.l1 kj31 l0 t132 0 l0 t133 t134 t135 t109 x114001_31 ([] : List (S41)) t117) = some (r1, r2, r3, r4, r5, r6) := H
        have A51 := Aside0.mk A510
        clear A510
        have HC52 := Aside0.mk H
        clear H
        go_upto_block 2 with (first | ((with_reducible refine gate_callee (f := 39) rfl ?_); refine goesL_ (some 68) rfl rfl Try.func39 (by kernel_rfl) rfl #[.pointer (some ⟨gb102, 0, none⟩), .int .i64 32768] rfl (by (try simp only [List.map_toArray, List.map_cons, List.map_nil]); first | done | rfl | (simp only [List.length_drop, List.length_take]; rfl)) ?_; (with_reducible refine (vouchref21_reader_count.calls kj31 gb102 l0 x103001_31 x103002_31 x103003_31 32768 t132 t133 t134 t135 w _ ?side1 ?side2 A51.out).mono ?_); (case side1 => repeat (first | (with_reducible first | exact HI102.out | apply IsS56.alloc | apply IsS56.drewN | apply IsS56.drew | apply IsS56.set_1 | apply IsS56.set_2 | apply IsS56.set_3 | refine IsS56.far ?_ NB102_101.out _ | refine IsS56.far ?_ NB102_113.out _) | exact HI102.out)); (case side2 => repeat (first | (with_reducible first | exact HB.out | apply below_alloc | apply pw_below_drewN | apply below_drew1 | refine below_set ?_ (IsS56.ge HI102.out) | refine below_set ?_ GE101.out | refine below_set ?_ GE113.out) | exact HB.out)); rintro e w53 ⟨rfl, hi, hb, hk⟩; refine ⟨_, rfl, ?_⟩; have n0_ := Aside0.mk (Kd.R_mono (Kd.R_keep (IsS56.apart (show IsS56 w _ gb102 l0 x103001_31 x103002_31 x103003_31 from by repeat (first | (with_reducible first | exact HI102.out | apply IsS56.alloc | apply IsS56.drewN | apply IsS56.drew | apply IsS56.set_1 | apply IsS56.set_2 | apply IsS56.set_3 | refine IsS56.far ?_ NB102_101.out _ | refine IsS56.far ?_ NB102_113.out _) | exact HI102.out)) (kr HO_114001) (by decide)) hk (fun _ h => h.2)) (fun _ h => h.1)); have n1_ := Aside0.mk (KeepBut.blk hk (g' := gb101) (o := .cells #[.int .u8 0, .slice none 0 0, .slice none 0 0, .int .i64 0] 25 (0, 0)) (bk BK101) NB101_102.out (by simp)); have n2_ := Aside0.mk (KeepBut.blk hk (g' := gb113) (o := .cells #[.int .u8 t109, u114001, .slice none 0 0, .int .i64 t117] 25 (0, 0)) (bk BK113) NB113_102.out (by simp)); have n3_ := Aside0.mk (hb); have n4_ := Aside0.mk (hi); clear HO_114001; clear BK101; clear BK113; clear HB; clear HI102; have HO_114001 := n0_; have BK101 := n1_; have BK113 := n2_; have HB := n3_; have HI102 := n4_; clear n0_ n1_ n2_ n3_ n4_; (try clear hb); (try clear hb2); (try clear hk); (try clear hi)))
        (try simp only [Act.put, List.setIfInBounds_toArray, List.set_cons_zero, List.set_cons_succ])
        go_cut [] (fun wc => ∃ (kq : Nat) (x103001_51 : Int) (x103002_51 : Int) (x103003_51 : Int) (x114002_51 : List (S41)) (u114002 : Value), Aside0 (vouchref21_Decode.j5 kq l0 l0 x103001_51 x103002_51 x103003_51 t109 x114001_31 x114002_51 t117 = some (r1, r2, r3, r4, r5, r6)) ∧ Aside0 (kq ≤ kj31) ∧ Aside0 (Kd.R Kd.string 9 wc w.heap.size (fun _ => True) u114001 x114001_31) ∧ Aside0 (Kd.R k41 41 wc w.heap.size (fun _ => True) u114002 x114002_51) ∧ Aside0 (wc.heap[gb101]? = some (.cells #[.int .u8 0, (.slice none 0 0), (.slice none 0 0), .int .i64 0] 25 (0, 0))) ∧ Aside0 (wc.heap[gb113]? = some (.cells #[.int .u8 t109, u114001, u114002, .int .i64 t117] 25 (0, 0))) ∧ Aside0 (IsS56 w wc gb102 l0 x103001_51 x103002_51 x103003_51) ∧ Aside0 (Below w.heap.size w wc))
        case first =>
         have H := HC52.out
         clear HC52
         have H' := Aside0.mk H
         clear H
         go_wp2
         go_loopg [11] kj31 (fun kq v11 w' => ∃ (x11_4 : Int) (x103001_4 : Int) (x103002_4 : Int) (x103003_4 : Int) (x114002_4 : List (S41)) (u114002 : Value), v11 = .int .i64 x11_4 ∧ Aside0 (vouchref21_Decode.l1 kq l0 t132 x11_4 l0 x103001_4 x103002_4 x103003_4 t109 x114001_31 x114002_4 t117 = some (r1, r2, r3, r4, r5, r6)) ∧ Aside0 (kq ≤ kj31) ∧ Aside0 (Kd.R Kd.string 9 w' w.heap.size (fun _ => True) u114001 x114001_31) ∧ Aside0 (Kd.R k41 41 w' w.heap.size (fun _ => True) u114002 x114002_4) ∧ Aside0 (w'.heap[gb101]? = some (.cells #[.int .u8 0, (.slice none 0 0), (.slice none 0 0), .int .i64 0] 25 (0, 0))) ∧ Aside0 (w'.heap[gb113]? = some (.cells #[.int .u8 t109, u114001, u114002, .int .i64 t117] 25 (0, 0))) ∧ Aside0 (IsS56 w w' gb102 l0 x103001_4 x103002_4 x103003_4) ∧ Aside0 (Below w.heap.size w w'))
         case atStart => exact ⟨(0), (t133), (t134), (t135), (([] : List (S41))), (.slice none 0 0), (by first | rfl | (simp; done) | (simp [*]; done)), H', ⟨Nat.le_refl _⟩, ⟨by (with_reducible repeat (first | apply Kd.R_alloc | apply Kd.R_drewN | apply Kd.R_drew)); exact HO_114001.out⟩, ⟨by first | exact Kd.R_nil _ _ _ _ _ | exact Kd.N_nil _ _ _ _ _ | exact Kd.V_nil _ _ _ _ _ | exact Kd.Q_nil _ _ _ _ _ | exact Kd.S_nil _ _ _ _ _⟩, ⟨by (with_reducible repeat (first | refine blk_drewN ?_ _ | refine blk_drew ?_ | refine blk_alloc ?_ _)); exact BK101.out⟩, ⟨by (with_reducible repeat (first | refine blk_drewN ?_ _ | refine blk_drew ?_ | refine blk_alloc ?_ _)); exact BK113.out⟩, ⟨by repeat (first | (with_reducible first | exact HI102.out | apply IsS56.alloc | apply IsS56.drewN | apply IsS56.drew | apply IsS56.set_1 | apply IsS56.set_2 | apply IsS56.set_3 | refine IsS56.far ?_ NB102_101.out _ | refine IsS56.far ?_ NB102_113.out _) | exact HI102.out)⟩, ⟨by repeat (first | (with_reducible first | exact HB.out | apply below_alloc | apply pw_below_drewN | apply below_drew1 | refine below_set ?_ (IsS56.ge HI102.out) | refine below_set ?_ GE101.out | refine below_set ?_ GE113.out) | exact HB.out)⟩⟩
         case round =>
          clear H'
          try clear c1
          try clear c2
          try clear c2b0
          try clear c2b1
          try clear p2
          try clear c3
          try clear c4
          try clear p6
          try clear c16
          try clear c17
          try clear c19
          try clear c19b0
          try clear c19b1
          try clear c20
          try clear c21
          try clear c23
          try clear c24
          try clear c27
          try clear c34
          try clear c35
          try clear c36
          try clear c37
          try clear c38
          try clear c38b0
          try clear c39
          try clear c39b0
          try clear c39b1
          try clear c40
          try clear c41
          try clear c44
          try clear c45
          try clear hcz13_0
          try clear hcz13_1
          try clear hcz13_2
          try clear hcz13_3
          try clear hcz18_0
          try clear hcz18_1
          try clear hcz18_2
          try clear hcz18_3
          try clear hcz22_0
          try clear hcz22_1
          try clear hcz22_2
          try clear hcz22_3
          try clear hcz25_0
          try clear hcz25_1
          try clear hcz25_2
          try clear hcz25_3
          try clear hcz36_0
          try clear hcz36_1
          try clear hcz36_2
          try clear hcz36_3
          try clear hcz42_0
          try clear hcz42_1
          try clear hcz42_2
          try clear hcz42_3
          try clear hcz46_0
          try clear hcz46_1
          try clear hcz46_2
          try clear hcz46_3
          try clear hcz49_0
          try clear hcz49_1
          try clear hcz49_2
          try clear hcz49_3
          try clear hcz4_0
          try clear hcz4_1
          try clear hcz4_2
          try clear hcz4_3
          try clear hcz50_0
          try clear hcz50_1
          try clear hcz50_2
          try clear hcz50_3
          try clear hfz13_1
          try clear hfz13_2
          try clear hfz13_3
          try clear hfz18_0
          try clear hfz18_1
          try clear hfz18_2
          try clear hfz18_3
          try clear hfz22_0
          try clear hfz22_1
          try clear hfz22_2
          try clear hfz22_3
          try clear hfz25_0
          try clear hfz25_1
          try clear hfz25_2
          try clear hfz25_3
          try clear hfz36_0
          try clear hfz36_1
          try clear hfz36_2
          try clear hfz36_3
          try clear hfz42_1
          try clear hfz42_2
          try clear hfz42_3
          try clear hfz46_0
          try clear hfz46_1
          try clear hfz46_2
          try clear hfz46_3
          try clear hfz49_0
          try clear hfz49_1
          try clear hfz49_2
          try clear hfz49_3
          try clear hfz4_0
          try clear hfz4_1
          try clear hfz4_2
          try clear hfz4_3
          try clear hfz50_1
          try clear hfz50_2
          try clear hfz50_3
          try clear p2
          try clear p6
          obtain ⟨x11_4, x103001_4, x103002_4, x103003_4, x114002_4, u114002, rfl, HA, HK4, HO_114001, HO_114002, BK101, BK113, HI102, HB⟩ := hrel
          cases gk with
          | zero => exact absurd HA.out (by simp [vouchref21_Decode.l1])
          | succ k4 =>
           have H := HA.out
           clear HA
           simp only [vouchref21_Decode.l1] at H
           by_cases c54 : x11_4 < t132
           ·rw [if_pos c54] at H
            have c54b0 : decide (x11_4 < t132) = true := decide_eq_true c54
            clear c54
            (first | rw [c54b0] | (simp only [i64_w, i32_w]; rw [c54b0]) | skip)
            by_cases c55 : x103002_4 = 0
            ·rw [if_pos c55] at H
             have c55b0 : (x103002_4 == 0) = true := beq_iff_eq.mpr c55
             have c55b1 : (x103002_4 != 0) = false := bne_eq_false_iff_eq.mpr c55
             clear c55
             replace H := Option.bind_eq_some_iff.mp H
             obtain ⟨⟨t136, t137, t138, t139, t140, t141⟩, A560, H⟩ := H
             replace H : (if x114002_4.length < 5864062014805 then (vouchref21_Decode.l1 k4 l0 t132 (wrap64 (x11_4 + 1)) l0 t139 t140 t141 t109 x114001_31 (x114002_4 ++ [(⟨t136, t137, t138⟩ : S41)]) t117) else (none)) = some (r1, r2, r3, r4, r5, r6) := H
             have A56 := Aside0.mk A560
             clear A560
             by_cases c57 : x114002_4.length < 5864062014805
             ·rw [if_pos c57] at H
              have LMc57 := Aside0.mk c57
              clear c57
              obtain ⟨y143, hy143⟩ : ∃ y_ : List (S41), y_ = (x114002_4 ++ [(⟨t136, t137, t138⟩ : S41)]) := ⟨_, rfl⟩
              replace H : (vouchref21_Decode.l1 k4 l0 t132 (wrap64 (x11_4 + 1)) l0 t139 t140 t141 t109 x114001_31 y143 t117) = some (r1, r2, r3, r4, r5, r6) := by first | (rw [hy143]; with_reducible exact H) | (have H2_ := (Option.bind_some _ _).symm.trans H; rw [hy143]; with_reducible exact H2_) | (have H2_ := (Option.bind_some _ _).symm.trans H; with_reducible exact H2_) | with_reducible exact H | (rw [hy143]; exact H) | exact H
              have Ny143 := Aside0.mk hy143
              clear hy143
              have H' := Aside0.mk H
              clear H
              obtain ⟨ASz58_0, cSz58_0, HGz58, hgz58, ⟨HSz58_0, HTz58_0⟩⟩ := HI102.out
              have hcz58_0 := cellS56_0 HGz58
              have hcz58_1 := cellS56_1 HGz58
              have hcz58_2 := cellS56_2 HGz58
              have hcz58_3 := cellS56_3 HGz58
              have hfz58_1 := blk_frozen HGz58 1
              have hfz58_2 := blk_frozen HGz58 2
              have hfz58_3 := blk_frozen HGz58 3
              clear HGz58 hgz58
              go_wp2_with (first | ((with_reducible refine gate_callee (f := 41) rfl ?_); refine goesL_ (some 82) rfl rfl Try.func41 (by kernel_rfl) rfl #[.pointer (some ⟨gb102, 0, none⟩)] rfl (by (try simp only [List.map_toArray, List.map_cons, List.map_nil]); first | done | rfl | (simp only [List.length_drop, List.length_take]; rfl)) ?_; (with_reducible refine (vouchref21_reader_one.calls k4 gb102 l0 x103001_4 x103002_4 x103003_4 t136 t137 t138 t139 t140 t141 w _ ?side1 ?side2 A56.out).mono ?_); (case side1 => repeat (first | (with_reducible first | exact HI102.out | apply IsS56.alloc | apply IsS56.drewN | apply IsS56.drew | apply IsS56.set_1 | apply IsS56.set_2 | apply IsS56.set_3 | refine IsS56.far ?_ NB102_101.out _ | refine IsS56.far ?_ NB102_113.out _) | exact HI102.out)); (case side2 => repeat (first | (with_reducible first | exact HB.out | apply below_alloc | apply pw_below_drewN | apply below_drew1 | refine below_set ?_ (IsS56.ge HI102.out) | refine below_set ?_ GE101.out | refine below_set ?_ GE113.out) | exact HB.out)); rintro e w59 ⟨rfl, hi, hb, hk⟩; refine ⟨_, rfl, ?_⟩; have n0_ := Aside0.mk (Kd.R_mono (Kd.R_keep (IsS56.apart (show IsS56 w _ gb102 l0 x103001_4 x103002_4 x103003_4 from by repeat (first | (with_reducible first | exact HI102.out | apply IsS56.alloc | apply IsS56.drewN | apply IsS56.drew | apply IsS56.set_1 | apply IsS56.set_2 | apply IsS56.set_3 | refine IsS56.far ?_ NB102_101.out _ | refine IsS56.far ?_ NB102_113.out _) | exact HI102.out)) (kr HO_114001) (by decide)) hk (fun _ h => h.2)) (fun _ h => h.1)); have n1_ := Aside0.mk (Kd.R_mono (Kd.R_keep (IsS56.apart (show IsS56 w _ gb102 l0 x103001_4 x103002_4 x103003_4 from by repeat (first | (with_reducible first | exact HI102.out | apply IsS56.alloc | apply IsS56.drewN | apply IsS56.drew | apply IsS56.set_1 | apply IsS56.set_2 | apply IsS56.set_3 | refine IsS56.far ?_ NB102_101.out _ | refine IsS56.far ?_ NB102_113.out _) | exact HI102.out)) (kr HO_114002) (by decide)) hk (fun _ h => h.2)) (fun _ h => h.1)); have n2_ := Aside0.mk (KeepBut.blk hk (g' := gb101) (o := .cells #[.int .u8 0, .slice none 0 0, .slice none 0 0, .int .i64 0] 25 (0, 0)) (bk BK101) NB101_102.out (by simp)); have n3_ := Aside0.mk (KeepBut.blk hk (g' := gb113) (o := .cells #[.int .u8 t109, u114001, u114002, .int .i64 t117] 25 (0, 0)) (bk BK113) NB113_102.out (by simp)); have n4_ := Aside0.mk (hb); have n5_ := Aside0.mk (hi); clear HO_114001; clear HO_114002; clear BK101; clear BK113; clear HB; clear HI102; have HO_114001 := n0_; have HO_114002 := n1_; have BK101 := n2_; have BK113 := n3_; have HB := n4_; have HI102 := n5_; clear n0_ n1_ n2_ n3_ n4_ n5_; (try clear hb); (try clear hb2); (try clear hk); (try clear hi)) | ((with_reducible refine gate_dst (N := 12) rfl ?_); refine box_event ?hg (N := 12) ?hd (cs := #[.int .u8 0, .int .i64 0, .int .i64 0]) (t := 41) ?hr ?_; (case hd => rfl); (case hg => rfl); (case hr => first | (go_simp; done) | (go_simp; rfl)); intro gb142 hg w60 hbox hb; have n0_ := Aside0.mk (Kd.R_below (kr HO_114001) hb); have n1_ := Aside0.mk (Kd.R_below (Kd.R_elderB (kr HO_114002) gb142 (Nat.le_of_eq hg.symm)) hb); have n2_ := Aside0.mk (blk_below (g := gb101) (o := .cells #[.int .u8 0, .slice none 0 0, .slice none 0 0, .int .i64 0] 25 (0, 0)) (bk BK101) hb); have n3_ := Aside0.mk (blk_below (g := gb113) (o := .cells #[.int .u8 t109, u114001, u114002, .int .i64 t117] 25 (0, 0)) (bk BK113) hb); have n4_ := Aside0.mk (IsS56.below (by repeat (first | (with_reducible first | exact HI102.out | apply IsS56.alloc | apply IsS56.drewN | apply IsS56.drew | apply IsS56.set_1 | apply IsS56.set_2 | apply IsS56.set_3 | refine IsS56.far ?_ NB102_101.out _ | refine IsS56.far ?_ NB102_113.out _) | exact HI102.out)) hb); have n5_ := Aside0.mk (below_step (by repeat (first | (with_reducible first | exact HB.out | apply below_alloc | apply pw_below_drewN | apply below_drew1 | refine below_set ?_ (IsS56.ge HI102.out) | refine below_set ?_ GE101.out | refine below_set ?_ GE113.out) | exact HB.out)) hb); have n6_ := Aside0.mk (hbox); have n7_ := Aside0.mk ((by rw [hg]; exact (below_size (by repeat (first | (with_reducible first | exact HB.out | apply below_alloc | apply pw_below_drewN | apply below_drew1 | refine below_set ?_ (IsS56.ge HI102.out) | refine below_set ?_ GE101.out | refine below_set ?_ GE113.out) | exact HB.out))) : w.heap.size ≤ gb142)); have n8_ := Aside0.mk ((by rw [hg]; exact (below_size (by repeat (first | (with_reducible first | exact HB.out | apply below_alloc | apply pw_below_drewN | apply below_drew1 | refine below_set ?_ (IsS56.ge HI102.out) | refine below_set ?_ GE101.out | refine below_set ?_ GE113.out) | exact HB.out))) : w.heap.size ≤ gb142)); have n9_ := Aside0.mk ((by rw [hg]; exact Nat.ne_of_lt (blk_lt (g := gb101) (o := .cells #[.int .u8 0, .slice none 0 0, .slice none 0 0, .int .i64 0] 25 (0, 0)) (bk BK101)) : gb101 ≠ gb142)); have n10_ := Aside0.mk ((by rw [hg]; exact Nat.ne_of_gt (blk_lt (g := gb101) (o := .cells #[.int .u8 0, .slice none 0 0, .slice none 0 0, .int .i64 0] 25 (0, 0)) (bk BK101)) : gb142 ≠ gb101)); have n11_ := Aside0.mk ((by rw [hg]; exact Nat.ne_of_lt (blk_lt (g := gb113) (o := .cells #[.int .u8 t109, u114001, u114002, .int .i64 t117] 25 (0, 0)) (bk BK113)) : gb113 ≠ gb142)); have n12_ := Aside0.mk ((by rw [hg]; exact Nat.ne_of_gt (blk_lt (g := gb113) (o := .cells #[.int .u8 t109, u114001, u114002, .int .i64 t117] 25 (0, 0)) (bk BK113)) : gb142 ≠ gb113)); have n13_ := Aside0.mk ((by rw [hg]; exact Nat.ne_of_lt (IsS56.lt (show IsS56 w _ gb102 l0 t139 t140 t141 from by repeat (first | (with_reducible first | exact HI102.out | apply IsS56.alloc | apply IsS56.drewN | apply IsS56.drew | apply IsS56.set_1 | apply IsS56.set_2 | apply IsS56.set_3 | refine IsS56.far ?_ NB102_101.out _ | refine IsS56.far ?_ NB102_113.out _) | exact HI102.out))) : gb102 ≠ gb142)); have n14_ := Aside0.mk ((by rw [hg]; exact Nat.ne_of_gt (IsS56.lt (show IsS56 w _ gb102 l0 t139 t140 t141 from by repeat (first | (with_reducible first | exact HI102.out | apply IsS56.alloc | apply IsS56.drewN | apply IsS56.drew | apply IsS56.set_1 | apply IsS56.set_2 | apply IsS56.set_3 | refine IsS56.far ?_ NB102_101.out _ | refine IsS56.far ?_ NB102_113.out _) | exact HI102.out))) : gb142 ≠ gb102)); clear HO_114001; clear HO_114002; clear BK101; clear BK113; clear HI102; clear HB; have HO_114001 := n0_; have HO_114002 := n1_; have BK101 := n2_; have BK113 := n3_; have HI102 := n4_; have HB := n5_; have BK142 := n6_; have GW142 := n7_; have GE142 := n8_; have NB101_142 := n9_; have NB142_101 := n10_; have NB113_142 := n11_; have NB142_113 := n12_; have NB102_142 := n13_; have NB142_102 := n14_; clear n0_ n1_ n2_ n3_ n4_ n5_ n6_ n7_ n8_ n9_ n10_ n11_ n12_ n13_ n14_; clear hb hbox hg; have hnb61 := NB142_101.out; have hnc61 := NB101_142.out; have hnb62 := NB142_113.out; have hnc62 := NB113_142.out; have hnb63 := NB142_102.out; have hnc63 := NB102_142.out; have hcz64_0 : w60.cell? ⟨gb142, 0, none⟩ = some (.int .u8 0) := (blk_cell BK142.out 0).trans rfl; have hcz64_1 : w60.cell? ⟨gb142, 1, none⟩ = some (.int .i64 0) := (blk_cell BK142.out 1).trans rfl; have hcz64_2 : w60.cell? ⟨gb142, 2, none⟩ = some (.int .i64 0) := (blk_cell BK142.out 2).trans rfl; have hfz64_0 := blk_frozen BK142.out 0; have hfz64_1 := blk_frozen BK142.out 1; have hfz64_2 := blk_frozen BK142.out 2; have hnb65 := NB113_101.out; have hnc65 := NB101_113.out; have hnb66 := NB113_102.out; have hnc66 := NB102_113.out; have hcz67_0 : w60.cell? ⟨gb113, 0, none⟩ = some (.int .u8 t109) := (blk_cell BK113.out 0).trans rfl; have hcz67_1 : w60.cell? ⟨gb113, 1, none⟩ = some (u114001) := (blk_cell BK113.out 1).trans rfl; have hcz67_2 : w60.cell? ⟨gb113, 2, none⟩ = some (u114002) := (blk_cell BK113.out 2).trans rfl; have hcz67_3 : w60.cell? ⟨gb113, 3, none⟩ = some (.int .i64 t117) := (blk_cell BK113.out 3).trans rfl; have hfz67_0 := blk_frozen BK113.out 0; have hfz67_1 := blk_frozen BK113.out 1; have hfz67_2 := blk_frozen BK113.out 2; have hfz67_3 := blk_frozen BK113.out 3) | ((first | (with_reducible refine gate_builtin (b := .append) (xs := #[.tmp 84, .tmp 86]) rfl ?_) | (refine gate_builtin (b := .append) (xs := #[.tmp 84, .tmp 86]) rfl ?_)); at_builtin; refine Kd.R_append k41 (w0 := w) w.heap.size rfl (.tmp 84) (.tmp 86) 23 41 (.agg #[(.int .u8 0), (.int .i64 0), (.int .i64 0)]) 24 rfl Try.underlying23 info41 rfl (by decide) (by omega) u114002 x114002_4 (⟨t136, t137, t138⟩ : S41) [.int .u8 t136, .int .i64 t137, .int .i64 t138] (fun k_ => k_ ≠ gb142) (fun _ => False) rfl (by first | (go_simp; done) | (go_simp; rfl)) ?aP (fun _ hk => hk.elim) ?aF ?aO ?aB ?aS ?aL ?_; (case aP => exact k41_mkM _ _ _ (⟨t136, t137, t138⟩ : S41)); (case aB => exact (by repeat (first | (with_reducible first | exact HB.out | apply below_alloc | apply pw_below_drewN | apply below_drew1 | refine below_set ?_ (IsS56.ge HI102.out) | refine below_set ?_ GE101.out | refine below_set ?_ GE113.out | refine below_set ?_ GE142.out) | exact HB.out))); (case aF => exact (fun k_ hk => Kd.freshB (g := gb142) (o := .cells #[.int .u8 t136, .int .i64 t137, .int .i64 t138] 41 (0, 0)) (by (with_reducible repeat (first | refine blk_drewN ?_ _ | refine blk_drew ?_ | refine blk_alloc ?_ _)); refine blk_put (cs := #[.int .u8 t136, .int .i64 t137, .int .i64 0]) ?_ 2 _ rfl; (with_reducible repeat (first | refine blk_drewN ?_ _ | refine blk_drew ?_ | refine blk_alloc ?_ _)); refine blk_put (cs := #[.int .u8 t136, .int .i64 0, .int .i64 0]) ?_ 1 _ rfl; (with_reducible repeat (first | refine blk_drewN ?_ _ | refine blk_drew ?_ | refine blk_alloc ?_ _)); refine blk_put (cs := #[.int .u8 0, .int .i64 0, .int .i64 0]) ?_ 0 _ rfl; (with_reducible repeat (first | refine blk_drewN ?_ _ | refine blk_drew ?_ | refine blk_alloc ?_ _)); exact BK142.out) k_ hk)); (case aO => exact (by (with_reducible repeat (first | apply Kd.R_alloc | apply Kd.R_drewN | apply Kd.R_drew)); exact Kd.R_mono (Kd.R_far (p := ⟨gb142, 2, none⟩) (Kd.R_far (p := ⟨gb142, 1, none⟩) (Kd.R_far (p := ⟨gb142, 0, none⟩) (Kd.R_mono HO_114002.out (fun k_ hk => (⟨hk, hk.2⟩ : _ ∧ k_ ≠ gb142))) (fun _ hk => hk.2) (.int .u8 t136)) (fun _ hk => hk.2) (.int .i64 t137)) (fun _ hk => hk.2) (.int .i64 t138)) (fun _ hk => hk.1.2))); (case aS => exact (below_size (by repeat (first | (with_reducible first | exact HB.out | apply below_alloc | apply pw_below_drewN | apply below_drew1 | refine below_set ?_ (IsS56.ge HI102.out) | refine below_set ?_ GE101.out | refine below_set ?_ GE113.out | refine below_set ?_ GE142.out) | exact HB.out)))); (case aL => have := LMc57.out; omega); intro v144 w68 ho hb hg hat; rw [← Ny143.out] at ho; have n0_ := Aside0.mk (Kd.R_over' (by (with_reducible repeat (first | apply Kd.R_alloc | apply Kd.R_drewN | apply Kd.R_drew)); exact (Kd.R_mono (Kd.R_far (p := ⟨gb142, 2, none⟩) (Kd.R_far (p := ⟨gb142, 1, none⟩) (Kd.R_far (p := ⟨gb142, 0, none⟩) (Kd.R_types HO_114001.out BK142.out (by decide)) (fun _ hk => hk.2) (.int .u8 t136)) (fun _ hk => hk.2) (.int .i64 t137)) (fun _ hk => hk.2) (.int .i64 t138)) (fun _ h_ => h_.1))) (Kd.R_typed (by (with_reducible repeat (first | apply Kd.R_alloc | apply Kd.R_drewN | apply Kd.R_drew)); exact (Kd.R_mono (Kd.R_far (p := ⟨gb142, 2, none⟩) (Kd.R_far (p := ⟨gb142, 1, none⟩) (Kd.R_far (p := ⟨gb142, 0, none⟩) (Kd.R_mono HO_114002.out (fun k_ hk => (⟨hk, hk.2⟩ : _ ∧ k_ ≠ gb142))) (fun _ hk => hk.2) (.int .u8 t136)) (fun _ hk => hk.2) (.int .i64 t137)) (fun _ hk => hk.2) (.int .i64 t138)) (fun _ h_ => h_.1)))) (by decide) hg); have n1_ := Aside0.mk (blk_grown (g := gb101) (o := .cells #[.int .u8 0, .slice none 0 0, .slice none 0 0, .int .i64 0] 25 (0, 0)) (by (with_reducible repeat (first | refine blk_drewN ?_ _ | refine blk_drew ?_ | refine blk_alloc ?_ _)); refine blk_far ?_ NB101_142.out _; (with_reducible repeat (first | refine blk_drewN ?_ _ | refine blk_drew ?_ | refine blk_alloc ?_ _)); refine blk_far ?_ NB101_142.out _; (with_reducible repeat (first | refine blk_drewN ?_ _ | refine blk_drew ?_ | refine blk_alloc ?_ _)); refine blk_far ?_ NB101_142.out _; (with_reducible repeat (first | refine blk_drewN ?_ _ | refine blk_drew ?_ | refine blk_alloc ?_ _)); exact BK101.out) hg (Kd.R_ne HO_114002.out BK101.out (by decide))); have n2_ := Aside0.mk (blk_grown (g := gb113) (o := .cells #[.int .u8 t109, u114001, u114002, .int .i64 t117] 25 (0, 0)) (by (with_reducible repeat (first | refine blk_drewN ?_ _ | refine blk_drew ?_ | refine blk_alloc ?_ _)); refine blk_far ?_ NB113_142.out _; (with_reducible repeat (first | refine blk_drewN ?_ _ | refine blk_drew ?_ | refine blk_alloc ?_ _)); refine blk_far ?_ NB113_142.out _; (with_reducible repeat (first | refine blk_drewN ?_ _ | refine blk_drew ?_ | refine blk_alloc ?_ _)); refine blk_far ?_ NB113_142.out _; (with_reducible repeat (first | refine blk_drewN ?_ _ | refine blk_drew ?_ | refine blk_alloc ?_ _)); exact BK113.out) hg (Kd.R_ne HO_114002.out BK113.out (by decide))); have n3_ := Aside0.mk (IsS56.grown (vouchref21_Decode.like56 HI102.out (by repeat (first | (with_reducible first | exact HI102.out | apply IsS56.alloc | apply IsS56.drewN | apply IsS56.drew | apply IsS56.set_1 | apply IsS56.set_2 | apply IsS56.set_3 | refine IsS56.far ?_ NB102_101.out _ | refine IsS56.far ?_ NB102_113.out _ | refine IsS56.far ?_ NB102_142.out _) | exact HI102.out))) hg (IsS56.own_ne HI102.out HO_114002.out (by decide))); have n4_ := Aside0.mk (blk_grown (g := gb142) (o := .cells #[.int .u8 t136, .int .i64 t137, .int .i64 t138] 41 (0, 0)) (by (with_reducible repeat (first | refine blk_drewN ?_ _ | refine blk_drew ?_ | refine blk_alloc ?_ _)); refine blk_put (cs := #[.int .u8 t136, .int .i64 t137, .int .i64 0]) ?_ 2 _ rfl; (with_reducible repeat (first | refine blk_drewN ?_ _ | refine blk_drew ?_ | refine blk_alloc ?_ _)); refine blk_put (cs := #[.int .u8 t136, .int .i64 0, .int .i64 0]) ?_ 1 _ rfl; (with_reducible repeat (first | refine blk_drewN ?_ _ | refine blk_drew ?_ | refine blk_alloc ?_ _)); refine blk_put (cs := #[.int .u8 0, .int .i64 0, .int .i64 0]) ?_ 0 _ rfl; (with_reducible repeat (first | refine blk_drewN ?_ _ | refine blk_drew ?_ | refine blk_alloc ?_ _)); exact BK142.out) hg (Kd.R_away HO_114002.out (fun _ hk => hk.2))); have n5_ := Aside0.mk (hb); have n6_ := Aside0.mk (ho); clear HO_114001; clear BK101; clear BK113; clear HI102; clear BK142; clear HB; clear HO_114002; have HO_114001 := n0_; have BK101 := n1_; have BK113 := n2_; have HI102 := n3_; have BK142 := n4_; have HB := n5_; have HO145 := n6_; clear n0_ n1_ n2_ n3_ n4_ n5_ n6_; clear ho hb hg hat; obtain ⟨Ao69, co69, eo69⟩ := Kd.R_slice HO145.out; subst eo69; have hcz70_0 : w68.cell? ⟨gb113, 0, none⟩ = some (.int .u8 t109) := (blk_cell BK113.out 0).trans rfl; have hcz70_1 : w68.cell? ⟨gb113, 1, none⟩ = some (u114001) := (blk_cell BK113.out 1).trans rfl; have hcz70_2 : w68.cell? ⟨gb113, 2, none⟩ = some (u114002) := (blk_cell BK113.out 2).trans rfl; have hcz70_3 : w68.cell? ⟨gb113, 3, none⟩ = some (.int .i64 t117) := (blk_cell BK113.out 3).trans rfl; have hfz70_0 := blk_frozen BK113.out 0; have hfz70_1 := blk_frozen BK113.out 1; have hfz70_2 := blk_frozen BK113.out 2; have hfz70_3 := blk_frozen BK113.out 3))
              go_roundg k4
              case measure => have := HJ7.out; have := HJ25.out; have := HJ31.out; have := HK4.out; omega
              case rel => exact ⟨(wrap64 (x11_4 + 1)), (t139), (t140), (t141), (y143), (.slice Ao69 y143.length co69), (by first | rfl | (simp; done) | (simp [*]; done)), H', ⟨by have := HJ7.out; have := HJ25.out; have := HJ31.out; have := HK4.out; omega⟩, ⟨by (with_reducible repeat (first | apply Kd.R_alloc | apply Kd.R_drewN | apply Kd.R_drew)); exact Kd.R_mono (Kd.R_far (p := ⟨gb113, 2, none⟩) (Kd.R_types HO_114001.out BK113.out (by decide)) (fun _ hk => hk.2) (.slice Ao69 y143.length co69)) (fun _ hk => trivial)⟩, ⟨by (with_reducible repeat (first | apply Kd.R_alloc | apply Kd.R_drewN | apply Kd.R_drew)); exact Kd.R_mono (Kd.R_far (p := ⟨gb113, 2, none⟩) (Kd.R_types HO145.out BK113.out (by decide)) (fun _ hk => hk.2) (.slice Ao69 y143.length co69)) (fun _ hk => trivial)⟩, ⟨by (with_reducible repeat (first | refine blk_drewN ?_ _ | refine blk_drew ?_ | refine blk_alloc ?_ _)); refine blk_far ?_ NB101_113.out _; (with_reducible repeat (first | refine blk_drewN ?_ _ | refine blk_drew ?_ | refine blk_alloc ?_ _)); exact BK101.out⟩, ⟨by (with_reducible repeat (first | refine blk_drewN ?_ _ | refine blk_drew ?_ | refine blk_alloc ?_ _)); refine blk_put (cs := #[.int .u8 t109, u114001, u114002, .int .i64 t117]) ?_ 2 _ rfl; (with_reducible repeat (first | refine blk_drewN ?_ _ | refine blk_drew ?_ | refine blk_alloc ?_ _)); exact BK113.out⟩, ⟨by repeat (first | (with_reducible first | exact HI102.out | apply IsS56.alloc | apply IsS56.drewN | apply IsS56.drew | apply IsS56.set_1 | apply IsS56.set_2 | apply IsS56.set_3 | refine IsS56.far ?_ NB102_101.out _ | refine IsS56.far ?_ NB102_113.out _ | refine IsS56.far ?_ NB102_142.out _) | exact HI102.out)⟩, ⟨by repeat (first | (with_reducible first | exact HB.out | apply below_alloc | apply pw_below_drewN | apply below_drew1 | refine below_set ?_ (IsS56.ge HI102.out) | refine below_set ?_ GE101.out | refine below_set ?_ GE113.out | refine below_set ?_ GE142.out) | exact HB.out)⟩⟩
             ·rw [if_neg c57] at H
              exact absurd H (by simp)
            ·rw [if_neg c55] at H
             have c55b0 : (x103002_4 == 0) = false := beq_eq_false_iff_ne.mpr c55
             have c55b1 : (x103002_4 != 0) = true := bne_iff_ne.mpr c55
             have H' := Aside0.mk H
             clear H
             obtain ⟨ASz71_0, cSz71_0, HGz71, hgz71, ⟨HSz71_0, HTz71_0⟩⟩ := HI102.out
             have hcz71_0 := cellS56_0 HGz71
             have hcz71_1 := cellS56_1 HGz71
             have hcz71_2 := cellS56_2 HGz71
             have hcz71_3 := cellS56_3 HGz71
             have hfz71_1 := blk_frozen HGz71 1
             have hfz71_2 := blk_frozen HGz71 2
             have hfz71_3 := blk_frozen HGz71 3
             clear HGz71 hgz71
             go_wp2
             go_meet
             case rel => exact ⟨_, (x103001_4), (x103002_4), (x103003_4), (x114002_4), (u114002), H', ⟨by have := HJ7.out; have := HJ25.out; have := HJ31.out; have := HK4.out; first | omega | exact Nat.le_refl _⟩, ⟨by (with_reducible repeat (first | apply Kd.R_alloc | apply Kd.R_drewN | apply Kd.R_drew)); exact HO_114001.out⟩, ⟨by (with_reducible repeat (first | apply Kd.R_alloc | apply Kd.R_drewN | apply Kd.R_drew)); exact HO_114002.out⟩, ⟨by (with_reducible repeat (first | refine blk_drewN ?_ _ | refine blk_drew ?_ | refine blk_alloc ?_ _)); exact BK101.out⟩, ⟨by (with_reducible repeat (first | refine blk_drewN ?_ _ | refine blk_drew ?_ | refine blk_alloc ?_ _)); exact BK113.out⟩, ⟨by repeat (first | (with_reducible first | exact HI102.out | apply IsS56.alloc | apply IsS56.drewN | apply IsS56.drew | apply IsS56.set_1 | apply IsS56.set_2 | apply IsS56.set_3 | refine IsS56.far ?_ NB102_101.out _ | refine IsS56.far ?_ NB102_113.out _) | exact HI102.out)⟩, ⟨by repeat (first | (with_reducible first | exact HB.out | apply below_alloc | apply pw_below_drewN | apply below_drew1 | refine below_set ?_ (IsS56.ge HI102.out) | refine below_set ?_ GE101.out | refine below_set ?_ GE113.out) | exact HB.out)⟩⟩
           ·rw [if_neg c54] at H
            have c54b0 : decide (x11_4 < t132) = false := decide_eq_false c54
            clear c54
            (first | rw [c54b0] | (simp only [i64_w, i32_w]; rw [c54b0]) | skip)
            have H' := Aside0.mk H
            clear H
            go_wp2
            go_meet
            case rel => exact ⟨_, (x103001_4), (x103002_4), (x103003_4), (x114002_4), (u114002), H', ⟨by have := HJ7.out; have := HJ25.out; have := HJ31.out; have := HK4.out; first | omega | exact Nat.le_refl _⟩, ⟨by (with_reducible repeat (first | apply Kd.R_alloc | apply Kd.R_drewN | apply Kd.R_drew)); exact HO_114001.out⟩, ⟨by (with_reducible repeat (first | apply Kd.R_alloc | apply Kd.R_drewN | apply Kd.R_drew)); exact HO_114002.out⟩, ⟨by (with_reducible repeat (first | refine blk_drewN ?_ _ | refine blk_drew ?_ | refine blk_alloc ?_ _)); exact BK101.out⟩, ⟨by (with_reducible repeat (first | refine blk_drewN ?_ _ | refine blk_drew ?_ | refine blk_alloc ?_ _)); exact BK113.out⟩, ⟨by repeat (first | (with_reducible first | exact HI102.out | apply IsS56.alloc | apply IsS56.drewN | apply IsS56.drew | apply IsS56.set_1 | apply IsS56.set_2 | apply IsS56.set_3 | refine IsS56.far ?_ NB102_101.out _ | refine IsS56.far ?_ NB102_113.out _) | exact HI102.out)⟩, ⟨by repeat (first | (with_reducible first | exact HB.out | apply below_alloc | apply pw_below_drewN | apply below_drew1 | refine below_set ?_ (IsS56.ge HI102.out) | refine below_set ?_ GE101.out | refine below_set ?_ GE113.out) | exact HB.out)⟩⟩
        case rest =>
         clear HC52
         try clear c1
         try clear c2
         try clear c2b0
         try clear c2b1
         try clear p2
         try clear c3
         try clear c4
         try clear c5
         try clear c6
         try clear p6
         try clear c16
         try clear c17
         try clear c19
         try clear c19b0
         try clear c19b1
         try clear c20
         try clear c21
         try clear c23
         try clear c24
         try clear c27
         try clear c34
         try clear c35
         try clear c36
         try clear c37
         try clear c38
         try clear c38b0
         try clear c39
         try clear c39b0
         try clear c39b1
         try clear c40
         try clear c41
         try clear c44
         try clear c45
         try clear c54
         try clear c54b0
         try clear c55
         try clear c55b0
         try clear c55b1
         try clear c57
         try clear c61
         try clear c62
         try clear c63
         try clear p64
         try clear c65
         try clear c66
         try clear hcz13_0
         try clear hcz13_1
         try clear hcz13_2
         try clear hcz13_3
         try clear hcz18_0
         try clear hcz18_1
         try clear hcz18_2
         try clear hcz18_3
         try clear hcz22_0
         try clear hcz22_1
         try clear hcz22_2
         try clear hcz22_3
         try clear hcz25_0
         try clear hcz25_1
         try clear hcz25_2
         try clear hcz25_3
         try clear hcz36_0
         try clear hcz36_1
         try clear hcz36_2
         try clear hcz36_3
         try clear hcz42_0
         try clear hcz42_1
         try clear hcz42_2
         try clear hcz42_3
         try clear hcz46_0
         try clear hcz46_1
         try clear hcz46_2
         try clear hcz46_3
         try clear hcz49_0
         try clear hcz49_1
         try clear hcz49_2
         try clear hcz49_3
         try clear hcz4_0
         try clear hcz4_1
         try clear hcz4_2
         try clear hcz4_3
         try clear hcz50_0
         try clear hcz50_1
         try clear hcz50_2
         try clear hcz50_3
         try clear hcz58_0
         try clear hcz58_1
         try clear hcz58_2
         try clear hcz58_3
         try clear hcz64_0
         try clear hcz64_1
         try clear hcz64_2
         try clear hcz67_0
         try clear hcz67_1
         try clear hcz67_2
         try clear hcz67_3
         try clear hcz70_0
         try clear hcz70_1
         try clear hcz70_2
         try clear hcz70_3
         try clear hcz71_0
         try clear hcz71_1
         try clear hcz71_2
         try clear hcz71_3
         try clear hfz13_1
         try clear hfz13_2
         try clear hfz13_3
         try clear hfz18_0
         try clear hfz18_1
         try clear hfz18_2
         try clear hfz18_3
         try clear hfz22_0
         try clear hfz22_1
         try clear hfz22_2
         try clear hfz22_3
         try clear hfz25_0
         try clear hfz25_1
         try clear hfz25_2
         try clear hfz25_3
         try clear hfz36_0
         try clear hfz36_1
         try clear hfz36_2
         try clear hfz36_3
         try clear hfz42_1
         try clear hfz42_2
         try clear hfz42_3
         try clear hfz46_0
         try clear hfz46_1
         try clear hfz46_2
         try clear hfz46_3
         try clear hfz49_0
         try clear hfz49_1
         try clear hfz49_2
         try clear hfz49_3
         try clear hfz4_0
         try clear hfz4_1
         try clear hfz4_2
         try clear hfz4_3
         try clear hfz50_1
         try clear hfz50_2
         try clear hfz50_3
         try clear hfz58_1
         try clear hfz58_2
         try clear hfz58_3
         try clear hfz64_0
         try clear hfz64_1
         try clear hfz64_2
         try clear hfz67_0
         try clear hfz67_1
         try clear hfz67_2
         try clear hfz67_3
         try clear hfz70_0
         try clear hfz70_1
         try clear hfz70_2
         try clear hfz70_3
         try clear hfz71_1
         try clear hfz71_2
         try clear hfz71_3
         try clear p2
         try clear p6
         obtain ⟨kq, x103001_51, x103002_51, x103003_51, x114002_51, u114002, HA, HJ51, HO_114001, HO_114002, BK101, BK113, HI102, HB⟩ := hcut
         cases kq with
         | zero => exact absurd HA.out (by simp [vouchref21_Decode.j5])
         | succ kj51 =>
          have H := HA.out
          clear HA
          simp only [vouchref21_Decode.j5] at H
          by_cases c72 : x103001_51 < (l0.length : Int)
          ·rw [if_pos c72] at H
           have c72b0 : decide (x103001_51 < (l0.length : Int)) = true := decide_eq_true c72
           clear c72
           replace H := Option.bind_eq_some_iff.mp H
           obtain ⟨⟨t146, t147, t148⟩, A730, H⟩ := H
           replace H : (if t147 = 0 then (some (t109, x114001_31, x114002_51, t117, 0, 0)) else (some (0, ([] : List ByteArray), ([] : List (S41)), 0, t148, t147))) = some (r1, r2, r3, r4, r5, r6) := H
           have A73 := Aside0.mk A730
           clear A730
           by_cases c74 : t147 = 0
           ·rw [if_pos c74] at H
            have c74b0 : (t147 == 0) = true := beq_iff_eq.mpr c74
            have c74b1 : (t147 != 0) = false := bne_eq_false_iff_eq.mpr c74
            clear c74
            simp only [Option.some.injEq, Prod.mk.injEq] at H
            obtain ⟨rfl, rfl, rfl, rfl, rfl, rfl⟩ := H
            obtain ⟨ASz75_0, cSz75_0, HGz75, hgz75, ⟨HSz75_0, HTz75_0⟩⟩ := HI102.out
            have hcz75_0 := cellS56_0 HGz75
            have hcz75_1 := cellS56_1 HGz75
            have hcz75_2 := cellS56_2 HGz75
            have hcz75_3 := cellS56_3 HGz75
            have hfz75_1 := blk_frozen HGz75 1
            have hfz75_2 := blk_frozen HGz75 2
            have hfz75_3 := blk_frozen HGz75 3
            clear HGz75 hgz75
            go_wp2_with (first | ((with_reducible refine gate_callee (f := 37) rfl ?_); refine goesL_ (some 101) rfl rfl Try.func37 (by kernel_rfl) rfl #[.pointer (some ⟨gb102, 0, none⟩), .int .i64 210, .int .i64 x103001_51] rfl (by (try simp only [List.map_toArray, List.map_cons, List.map_nil]); first | done | rfl | (simp only [List.length_drop, List.length_take]; rfl)) ?_; (with_reducible refine (vouchref21_reader_fail.calls gb102 l0 x103001_51 x103002_51 x103003_51 210 x103001_51 t146 t147 t148 w _ ?side1 ?side2 A73.out).mono ?_); (case side1 => repeat (first | (with_reducible first | exact HI102.out | apply IsS56.alloc | apply IsS56.drewN | apply IsS56.drew | apply IsS56.set_1 | apply IsS56.set_2 | apply IsS56.set_3 | refine IsS56.far ?_ NB102_101.out _ | refine IsS56.far ?_ NB102_113.out _) | exact HI102.out)); (case side2 => repeat (first | (with_reducible first | exact HB.out | apply below_alloc | apply pw_below_drewN | apply below_drew1 | refine below_set ?_ (IsS56.ge HI102.out) | refine below_set ?_ GE101.out | refine below_set ?_ GE113.out) | exact HB.out)); rintro e w76 ⟨rfl, hi, hb, hk⟩; refine ⟨_, rfl, ?_⟩; have n0_ := Aside0.mk (Kd.R_mono (Kd.R_keep (IsS56.apart (show IsS56 w _ gb102 l0 x103001_51 x103002_51 x103003_51 from by repeat (first | (with_reducible first | exact HI102.out | apply IsS56.alloc | apply IsS56.drewN | apply IsS56.drew | apply IsS56.set_1 | apply IsS56.set_2 | apply IsS56.set_3 | refine IsS56.far ?_ NB102_101.out _ | refine IsS56.far ?_ NB102_113.out _) | exact HI102.out)) (kr HO_114001) (by decide)) hk (fun _ h => h.2)) (fun _ h => h.1)); have n1_ := Aside0.mk (Kd.R_mono (Kd.R_keep (IsS56.apart (show IsS56 w _ gb102 l0 x103001_51 x103002_51 x103003_51 from by repeat (first | (with_reducible first | exact HI102.out | apply IsS56.alloc | apply IsS56.drewN | apply IsS56.drew | apply IsS56.set_1 | apply IsS56.set_2 | apply IsS56.set_3 | refine IsS56.far ?_ NB102_101.out _ | refine IsS56.far ?_ NB102_113.out _) | exact HI102.out)) (kr HO_114002) (by decide)) hk (fun _ h => h.2)) (fun _ h => h.1)); have n2_ := Aside0.mk (KeepBut.blk hk (g' := gb101) (o := .cells #[.int .u8 0, .slice none 0 0, .slice none 0 0, .int .i64 0] 25 (0, 0)) (bk BK101) NB101_102.out (by simp)); have n3_ := Aside0.mk (KeepBut.blk hk (g' := gb113) (o := .cells #[.int .u8 t109, u114001, u114002, .int .i64 t117] 25 (0, 0)) (bk BK113) NB113_102.out (by simp)); have n4_ := Aside0.mk (hb); have n5_ := Aside0.mk (hi); clear HO_114001; clear HO_114002; clear BK101; clear BK113; clear HB; clear HI102; have HO_114001 := n0_; have HO_114002 := n1_; have BK101 := n2_; have BK113 := n3_; have HB := n4_; have HI102 := n5_; clear n0_ n1_ n2_ n3_ n4_ n5_; (try clear hb); (try clear hb2); (try clear hk); (try clear hi); obtain ⟨ASz77_0, cSz77_0, HGz77, hgz77, ⟨HSz77_0, HTz77_0⟩⟩ := HI102.out; have hcz77_0 := cellS56_0 HGz77; have hcz77_1 := cellS56_1 HGz77; have hcz77_2 := cellS56_2 HGz77; have hcz77_3 := cellS56_3 HGz77; have hfz77_1 := blk_frozen HGz77 1; have hfz77_2 := blk_frozen HGz77 2; have hfz77_3 := blk_frozen HGz77 3; clear HGz77 hgz77; have hnb78 := NB113_101.out; have hnc78 := NB101_113.out; have hnb79 := NB113_102.out; have hnc79 := NB102_113.out; have hcz80_0 : w76.cell? ⟨gb113, 0, none⟩ = some (.int .u8 t109) := (blk_cell BK113.out 0).trans rfl; have hcz80_1 : w76.cell? ⟨gb113, 1, none⟩ = some (u114001) := (blk_cell BK113.out 1).trans rfl; have hcz80_2 : w76.cell? ⟨gb113, 2, none⟩ = some (u114002) := (blk_cell BK113.out 2).trans rfl; have hcz80_3 : w76.cell? ⟨gb113, 3, none⟩ = some (.int .i64 t117) := (blk_cell BK113.out 3).trans rfl; have hfz80_0 := blk_frozen BK113.out 0; have hfz80_1 := blk_frozen BK113.out 1; have hfz80_2 := blk_frozen BK113.out 2; have hfz80_3 := blk_frozen BK113.out 3; have hnb81 := NB101_102.out; have hnc81 := NB102_101.out; have hcz82_0 : w76.cell? ⟨gb101, 0, none⟩ = some (.int .u8 0) := (blk_cell BK101.out 0).trans rfl; have hcz82_1 : w76.cell? ⟨gb101, 1, none⟩ = some (.slice none 0 0) := (blk_cell BK101.out 1).trans rfl; have hcz82_2 : w76.cell? ⟨gb101, 2, none⟩ = some (.slice none 0 0) := (blk_cell BK101.out 2).trans rfl; have hcz82_3 : w76.cell? ⟨gb101, 3, none⟩ = some (.int .i64 0) := (blk_cell BK101.out 3).trans rfl; have hfz82_0 := blk_frozen BK101.out 0; have hfz82_1 := blk_frozen BK101.out 1; have hfz82_2 := blk_frozen BK101.out 2; have hfz82_3 := blk_frozen BK101.out 3; obtain ⟨Ao83, co83, eo83⟩ := Kd.R_slice HO_114001.out; subst eo83; obtain ⟨Ao84, co84, eo84⟩ := Kd.R_slice HO_114002.out; subst eo84))
            refine bodyPost_ret (results_ctt rfl _ _ gb101 25 #[.int .u8 t109, .slice Ao83 x114001_31.length co83, .slice Ao84 x114002_51.length co84, .int .i64 t117] (0, 0) _ rfl (by (with_reducible repeat (first | refine blk_drewN ?_ _ | refine blk_drew ?_ | refine blk_alloc ?_ _)); refine blk_put (cs := #[.int .u8 t109, .slice Ao83 x114001_31.length co83, .slice Ao84 x114002_51.length co84, .int .i64 0]) ?_ 3 _ rfl; (with_reducible repeat (first | refine blk_drewN ?_ _ | refine blk_drew ?_ | refine blk_alloc ?_ _)); refine blk_put (cs := #[.int .u8 t109, .slice Ao83 x114001_31.length co83, .slice none 0 0, .int .i64 0]) ?_ 2 _ rfl; (with_reducible repeat (first | refine blk_drewN ?_ _ | refine blk_drew ?_ | refine blk_alloc ?_ _)); refine blk_put (cs := #[.int .u8 t109, .slice none 0 0, .slice none 0 0, .int .i64 0]) ?_ 1 _ rfl; (with_reducible repeat (first | refine blk_drewN ?_ _ | refine blk_drew ?_ | refine blk_alloc ?_ _)); refine blk_put (cs := #[.int .u8 0, .slice none 0 0, .slice none 0 0, .int .i64 0]) ?_ 0 _ rfl; (with_reducible repeat (first | refine blk_drewN ?_ _ | refine blk_drew ?_ | refine blk_alloc ?_ _)); exact BK101.out) Try.underlying25 rfl (by kernel_rfl)) rfl ?_
            exact ⟨_, _, by first | rfl | (simp [errW_none, errW_some] <;> rfl) | (simp [*, errW_none, errW_some] <;> rfl), by (with_reducible repeat (first | apply Kd.R_alloc | apply Kd.R_drewN | apply Kd.R_drew)); exact Kd.R_mono (Kd.R_far (p := ⟨gb101, 3, none⟩) (Kd.R_far (p := ⟨gb101, 2, none⟩) (Kd.R_far (p := ⟨gb101, 1, none⟩) (Kd.R_far (p := ⟨gb101, 0, none⟩) (Kd.R_types HO_114001.out BK101.out (by decide)) (fun _ hk => hk.2) (.int .u8 t109)) (fun _ hk => hk.2) (.slice Ao83 x114001_31.length co83)) (fun _ hk => hk.2) (.slice Ao84 x114002_51.length co84)) (fun _ hk => hk.2) (.int .i64 t117)) (fun _ hk => trivial), by (with_reducible repeat (first | apply Kd.R_alloc | apply Kd.R_drewN | apply Kd.R_drew)); exact Kd.R_mono (Kd.R_far (p := ⟨gb101, 3, none⟩) (Kd.R_far (p := ⟨gb101, 2, none⟩) (Kd.R_far (p := ⟨gb101, 1, none⟩) (Kd.R_far (p := ⟨gb101, 0, none⟩) (Kd.R_types HO_114002.out BK101.out (by decide)) (fun _ hk => hk.2) (.int .u8 t109)) (fun _ hk => hk.2) (.slice Ao83 x114001_31.length co83)) (fun _ hk => hk.2) (.slice Ao84 x114002_51.length co84)) (fun _ hk => hk.2) (.int .i64 t117)) (fun _ hk => trivial), by repeat (first | (with_reducible first | exact HB.out | apply below_alloc | apply pw_below_drewN | apply below_drew1 | refine below_set ?_ (IsS56.ge HI102.out) | refine below_set ?_ GE101.out | refine below_set ?_ GE113.out) | exact HB.out)⟩
           ·rw [if_neg c74] at H
            have c74b0 : (t147 == 0) = false := beq_eq_false_iff_ne.mpr c74
            have c74b1 : (t147 != 0) = true := bne_iff_ne.mpr c74
            simp only [Option.some.injEq, Prod.mk.injEq] at H
            obtain ⟨rfl, rfl, rfl, rfl, rfl, rfl⟩ := H
            obtain ⟨ASz85_0, cSz85_0, HGz85, hgz85, ⟨HSz85_0, HTz85_0⟩⟩ := HI102.out
            have hcz85_0 := cellS56_0 HGz85
            have hcz85_1 := cellS56_1 HGz85
            have hcz85_2 := cellS56_2 HGz85
            have hcz85_3 := cellS56_3 HGz85
            have hfz85_1 := blk_frozen HGz85 1
            have hfz85_2 := blk_frozen HGz85 2
            have hfz85_3 := blk_frozen HGz85 3
            clear HGz85 hgz85
            try go_wp2_with (first | ((with_reducible refine gate_callee (f := 37) rfl ?_); refine goesL_ (some 101) rfl rfl Try.func37 (by kernel_rfl) rfl #[.pointer (some ⟨gb102, 0, none⟩), .int .i64 210, .int .i64 x103001_51] rfl (by (try simp only [List.map_toArray, List.map_cons, List.map_nil]); first | done | rfl | (simp only [List.length_drop, List.length_take]; rfl)) ?_; (with_reducible refine (vouchref21_reader_fail.calls gb102 l0 x103001_51 x103002_51 x103003_51 210 x103001_51 t146 t147 t148 w _ ?side1 ?side2 A73.out).mono ?_); (case side1 => repeat (first | (with_reducible first | exact HI102.out | apply IsS56.alloc | apply IsS56.drewN | apply IsS56.drew | apply IsS56.set_1 | apply IsS56.set_2 | apply IsS56.set_3 | refine IsS56.far ?_ NB102_101.out _ | refine IsS56.far ?_ NB102_113.out _) | exact HI102.out)); (case side2 => repeat (first | (with_reducible first | exact HB.out | apply below_alloc | apply pw_below_drewN | apply below_drew1 | refine below_set ?_ (IsS56.ge HI102.out) | refine below_set ?_ GE101.out | refine below_set ?_ GE113.out) | exact HB.out)); rintro e w86 ⟨rfl, hi, hb, hk⟩; refine ⟨_, rfl, ?_⟩; have n0_ := Aside0.mk (Kd.R_mono (Kd.R_keep (IsS56.apart (show IsS56 w _ gb102 l0 x103001_51 x103002_51 x103003_51 from by repeat (first | (with_reducible first | exact HI102.out | apply IsS56.alloc | apply IsS56.drewN | apply IsS56.drew | apply IsS56.set_1 | apply IsS56.set_2 | apply IsS56.set_3 | refine IsS56.far ?_ NB102_101.out _ | refine IsS56.far ?_ NB102_113.out _) | exact HI102.out)) (kr HO_114001) (by decide)) hk (fun _ h => h.2)) (fun _ h => h.1)); have n1_ := Aside0.mk (Kd.R_mono (Kd.R_keep (IsS56.apart (show IsS56 w _ gb102 l0 x103001_51 x103002_51 x103003_51 from by repeat (first | (with_reducible first | exact HI102.out | apply IsS56.alloc | apply IsS56.drewN | apply IsS56.drew | apply IsS56.set_1 | apply IsS56.set_2 | apply IsS56.set_3 | refine IsS56.far ?_ NB102_101.out _ | refine IsS56.far ?_ NB102_113.out _) | exact HI102.out)) (kr HO_114002) (by decide)) hk (fun _ h => h.2)) (fun _ h => h.1)); have n2_ := Aside0.mk (KeepBut.blk hk (g' := gb101) (o := .cells #[.int .u8 0, .slice none 0 0, .slice none 0 0, .int .i64 0] 25 (0, 0)) (bk BK101) NB101_102.out (by simp)); have n3_ := Aside0.mk (KeepBut.blk hk (g' := gb113) (o := .cells #[.int .u8 t109, u114001, u114002, .int .i64 t117] 25 (0, 0)) (bk BK113) NB113_102.out (by simp)); have n4_ := Aside0.mk (hb); have n5_ := Aside0.mk (hi); clear HO_114001; clear HO_114002; clear BK101; clear BK113; clear HB; clear HI102; have HO_114001 := n0_; have HO_114002 := n1_; have BK101 := n2_; have BK113 := n3_; have HB := n4_; have HI102 := n5_; clear n0_ n1_ n2_ n3_ n4_ n5_; (try clear hb); (try clear hb2); (try clear hk); (try clear hi); obtain ⟨ASz87_0, cSz87_0, HGz87, hgz87, ⟨HSz87_0, HTz87_0⟩⟩ := HI102.out; have hcz87_0 := cellS56_0 HGz87; have hcz87_1 := cellS56_1 HGz87; have hcz87_2 := cellS56_2 HGz87; have hcz87_3 := cellS56_3 HGz87; have hfz87_1 := blk_frozen HGz87 1; have hfz87_2 := blk_frozen HGz87 2; have hfz87_3 := blk_frozen HGz87 3; clear HGz87 hgz87))
            have n0_ := Aside0.mk (Kd.R_drew HO_114001.out)
            have n1_ := Aside0.mk (Kd.R_drew HO_114002.out)
            have n2_ := Aside0.mk (blk_drew BK101.out)
            have n3_ := Aside0.mk (blk_drew BK113.out)
            have n4_ := Aside0.mk (IsS56.drew HI102.out)
            have n5_ := Aside0.mk (below_drew1 HB.out)
            clear HO_114001
            clear HO_114002
            clear BK101
            clear BK113
            clear HI102
            clear HB
            have HO_114001 := n0_
            have HO_114002 := n1_
            have BK101 := n2_
            have BK113 := n3_
            have HI102 := n4_
            have HB := n5_
            clear n0_ n1_ n2_ n3_ n4_ n5_
            obtain ⟨ASy93_0, cSy93_0, HGy93, hgy93, _⟩ := HI102.out
            have BKy93 := Aside0.mk (blk_drew HGy93)
            clear HGy93 hgy93
            refine start_ (n := 12) (S := fun w' => w'.cell? ⟨gb102, 0, none⟩ = some (.slice ASy93_0 l0.length cSy93_0) ∧ w'.cell? ⟨gb102, 1, none⟩ = some (.int .i64 t146) ∧ w'.cell? ⟨gb102, 2, none⟩ = some (.int .i64 t147) ∧ w'.cell? ⟨gb102, 3, none⟩ = some (.int .i64 t148)) (ds := []) #[false, false, false, false, false, false, false, false, false, false, false, false] (by kernel_rfl) rfl rfl ⟨(blk_cell BKy93.out 0).trans rfl, (blk_cell BKy93.out 1).trans rfl, (blk_cell BKy93.out 2).trans rfl, (blk_cell BKy93.out 3).trans rfl⟩ (fun hHeld => ?_); refine with_tabW vouchref21_Decode.tab26 vouchref21_Decode.bits26 (fun HT_ HW_ => ?_)
            generalize w86.drew = w88 at BKy93 HO_114001 HO_114002 BK101 BK113 HI102 HB hHeld ⊢
            refine pu 0 (some 107) ?_; refine pu 1 (some 108) ?_; refine pu 2 (some 109) ?_; refine pu 3 (some 110) ?_; refine pu 5 (some 112) ?_; refine pu 6 (some 113) ?_; refine pu 7 (some 114) ?_; refine tk 4 (some 111) hHeld ?_; refine tk 8 (some 115) hHeld ?_
            refine on_ 9 none (fun K hK => ?_)
            have hs89 : w88.cell? ⟨gb101, 0, none⟩ = some (.int .u8 0) := (blk_cell BK101.out 0).trans rfl
            have hfs89 := blk_frozen BK101.out 0
            have hns89_1 := NB113_101.out
            have hms89_1 := NB101_113.out
            have hs90 : w88.cell? ⟨gb101, 1, none⟩ = some (.slice none 0 0) := (blk_cell BK101.out 1).trans rfl
            have hfs90 := blk_frozen BK101.out 1
            have hns90_1 := NB113_101.out
            have hms90_1 := NB101_113.out
            have hs91 : w88.cell? ⟨gb101, 2, none⟩ = some (.slice none 0 0) := (blk_cell BK101.out 2).trans rfl
            have hfs91 := blk_frozen BK101.out 2
            have hns91_1 := NB113_101.out
            have hms91_1 := NB101_113.out
            have hs92 : w88.cell? ⟨gb101, 3, none⟩ = some (.int .i64 0) := (blk_cell BK101.out 3).trans rfl
            have hfs92 := blk_frozen BK101.out 3
            have hns92_1 := NB113_101.out
            have hms92_1 := NB101_113.out
            refine skip_ (w1 := ?_) (by rfl) rfl ?_ ?_
            rotate_left
            ·go_simp
             rfl
            refine hK.out _ _ ⟨((cell_far (p := ⟨gb101, _, none⟩) NB102_101.out _).trans (((cell_far (p := ⟨gb101, _, none⟩) NB102_101.out _).trans (((cell_far (p := ⟨gb101, _, none⟩) NB102_101.out _).trans (((cell_far (p := ⟨gb101, _, none⟩) NB102_101.out _).trans (hHeld.1)))))))), ((cell_far (p := ⟨gb101, _, none⟩) NB102_101.out _).trans (((cell_far (p := ⟨gb101, _, none⟩) NB102_101.out _).trans (((cell_far (p := ⟨gb101, _, none⟩) NB102_101.out _).trans (((cell_far (p := ⟨gb101, _, none⟩) NB102_101.out _).trans (hHeld.2.1)))))))), ((cell_far (p := ⟨gb101, _, none⟩) NB102_101.out _).trans (((cell_far (p := ⟨gb101, _, none⟩) NB102_101.out _).trans (((cell_far (p := ⟨gb101, _, none⟩) NB102_101.out _).trans (((cell_far (p := ⟨gb101, _, none⟩) NB102_101.out _).trans (hHeld.2.2.1)))))))), ((cell_far (p := ⟨gb101, _, none⟩) NB102_101.out _).trans (((cell_far (p := ⟨gb101, _, none⟩) NB102_101.out _).trans (((cell_far (p := ⟨gb101, _, none⟩) NB102_101.out _).trans (((cell_far (p := ⟨gb101, _, none⟩) NB102_101.out _).trans (hHeld.2.2.2))))))))⟩ (fun hHeld => ?_)
            clear hK K
            refine pu 10 (some 3) ?_; refine pu 11 (some 4) ?_
            refine done_ (done_of HT_.out (by kernel_rfl)) ?_
            try go_wp2
            refine bodyPost_ret (results_ctt rfl _ _ gb101 25 #[.int .u8 0, .slice none 0 0, .slice none 0 0, .int .i64 0] (0, 0) _ rfl (by (with_reducible repeat (first | refine blk_drewN ?_ _ | refine blk_drew ?_ | refine blk_alloc ?_ _)); (try refine blk_put (cs := #[.int .u8 0, .slice none 0 0, .slice none 0 0, .int .i64 0]) ?_ 3 _ rfl); (with_reducible repeat (first | refine blk_drewN ?_ _ | refine blk_drew ?_ | refine blk_alloc ?_ _)); (try refine blk_put (cs := #[.int .u8 0, .slice none 0 0, .slice none 0 0, .int .i64 0]) ?_ 2 _ rfl); (with_reducible repeat (first | refine blk_drewN ?_ _ | refine blk_drew ?_ | refine blk_alloc ?_ _)); (try refine blk_put (cs := #[.int .u8 0, .slice none 0 0, .slice none 0 0, .int .i64 0]) ?_ 1 _ rfl); (with_reducible repeat (first | refine blk_drewN ?_ _ | refine blk_drew ?_ | refine blk_alloc ?_ _)); (try refine blk_put (cs := #[.int .u8 0, .slice none 0 0, .slice none 0 0, .int .i64 0]) ?_ 0 _ rfl); (with_reducible repeat (first | refine blk_drewN ?_ _ | refine blk_drew ?_ | refine blk_alloc ?_ _)); exact BK101.out) Try.underlying25 rfl (by kernel_rfl)) rfl ?_
            exact ⟨_, _, by first | rfl | (simp [errW_none, errW_some] <;> rfl) | (simp [*, errW_none, errW_some] <;> rfl), by first | exact Kd.R_nil _ _ _ _ _ | exact Kd.N_nil _ _ _ _ _ | exact Kd.V_nil _ _ _ _ _ | exact Kd.Q_nil _ _ _ _ _ | exact Kd.S_nil _ _ _ _ _, by first | exact Kd.R_nil _ _ _ _ _ | exact Kd.N_nil _ _ _ _ _ | exact Kd.V_nil _ _ _ _ _ | exact Kd.Q_nil _ _ _ _ _ | exact Kd.S_nil _ _ _ _ _, by repeat (first | (with_reducible first | exact HB.out | apply below_alloc | apply pw_below_drewN | apply below_drew1 | refine below_set ?_ (IsS56.ge HI102.out) | refine below_set ?_ GE101.out | refine below_set ?_ GE113.out) | exact HB.out)⟩
          ·rw [if_neg c72] at H
           have c72b0 : decide (x103001_51 < (l0.length : Int)) = false := decide_eq_false c72
           clear c72
           by_cases c94 : x103002_51 = 0
           ·rw [if_pos c94] at H
            have c94b0 : (x103002_51 == 0) = true := beq_iff_eq.mpr c94
            have c94b1 : (x103002_51 != 0) = false := bne_eq_false_iff_eq.mpr c94
            clear c94
            simp only [Option.some.injEq, Prod.mk.injEq] at H
            obtain ⟨rfl, rfl, rfl, rfl, rfl, rfl⟩ := H
            obtain ⟨ASz95_0, cSz95_0, HGz95, hgz95, ⟨HSz95_0, HTz95_0⟩⟩ := HI102.out
            have hcz95_0 := cellS56_0 HGz95
            have hcz95_1 := cellS56_1 HGz95
            have hcz95_2 := cellS56_2 HGz95
            have hcz95_3 := cellS56_3 HGz95
            have hfz95_1 := blk_frozen HGz95 1
            have hfz95_2 := blk_frozen HGz95 2
            have hfz95_3 := blk_frozen HGz95 3
            clear HGz95 hgz95
            have hnb96 := NB113_101.out
            have hnc96 := NB101_113.out
            have hnb97 := NB113_102.out
            have hnc97 := NB102_113.out
            have hcz98_0 : wc.cell? ⟨gb113, 0, none⟩ = some (.int .u8 t109) := (blk_cell BK113.out 0).trans rfl
            have hcz98_1 : wc.cell? ⟨gb113, 1, none⟩ = some (u114001) := (blk_cell BK113.out 1).trans rfl
            have hcz98_2 : wc.cell? ⟨gb113, 2, none⟩ = some (u114002) := (blk_cell BK113.out 2).trans rfl
            have hcz98_3 : wc.cell? ⟨gb113, 3, none⟩ = some (.int .i64 t117) := (blk_cell BK113.out 3).trans rfl
            have hfz98_0 := blk_frozen BK113.out 0
            have hfz98_1 := blk_frozen BK113.out 1
            have hfz98_2 := blk_frozen BK113.out 2
            have hfz98_3 := blk_frozen BK113.out 3
            have hnb99 := NB101_102.out
            have hnc99 := NB102_101.out
            have hcz100_0 : wc.cell? ⟨gb101, 0, none⟩ = some (.int .u8 0) := (blk_cell BK101.out 0).trans rfl
            have hcz100_1 : wc.cell? ⟨gb101, 1, none⟩ = some (.slice none 0 0) := (blk_cell BK101.out 1).trans rfl
            have hcz100_2 : wc.cell? ⟨gb101, 2, none⟩ = some (.slice none 0 0) := (blk_cell BK101.out 2).trans rfl
            have hcz100_3 : wc.cell? ⟨gb101, 3, none⟩ = some (.int .i64 0) := (blk_cell BK101.out 3).trans rfl
            have hfz100_0 := blk_frozen BK101.out 0
            have hfz100_1 := blk_frozen BK101.out 1
            have hfz100_2 := blk_frozen BK101.out 2
            have hfz100_3 := blk_frozen BK101.out 3
            obtain ⟨Ao101, co101, eo101⟩ := Kd.R_slice HO_114001.out
            subst eo101
            obtain ⟨Ao102, co102, eo102⟩ := Kd.R_slice HO_114002.out
            subst eo102
            go_wp2
            refine bodyPost_ret (results_ctt rfl _ _ gb101 25 #[.int .u8 t109, .slice Ao101 x114001_31.length co101, .slice Ao102 x114002_51.length co102, .int .i64 t117] (0, 0) _ rfl (by (with_reducible repeat (first | refine blk_drewN ?_ _ | refine blk_drew ?_ | refine blk_alloc ?_ _)); refine blk_put (cs := #[.int .u8 t109, .slice Ao101 x114001_31.length co101, .slice Ao102 x114002_51.length co102, .int .i64 0]) ?_ 3 _ rfl; (with_reducible repeat (first | refine blk_drewN ?_ _ | refine blk_drew ?_ | refine blk_alloc ?_ _)); refine blk_put (cs := #[.int .u8 t109, .slice Ao101 x114001_31.length co101, .slice none 0 0, .int .i64 0]) ?_ 2 _ rfl; (with_reducible repeat (first | refine blk_drewN ?_ _ | refine blk_drew ?_ | refine blk_alloc ?_ _)); refine blk_put (cs := #[.int .u8 t109, .slice none 0 0, .slice none 0 0, .int .i64 0]) ?_ 1 _ rfl; (with_reducible repeat (first | refine blk_drewN ?_ _ | refine blk_drew ?_ | refine blk_alloc ?_ _)); refine blk_put (cs := #[.int .u8 0, .slice none 0 0, .slice none 0 0, .int .i64 0]) ?_ 0 _ rfl; (with_reducible repeat (first | refine blk_drewN ?_ _ | refine blk_drew ?_ | refine blk_alloc ?_ _)); exact BK101.out) Try.underlying25 rfl (by kernel_rfl)) rfl ?_
            exact ⟨_, _, by first | rfl | (simp [errW_none, errW_some] <;> rfl) | (simp [*, errW_none, errW_some] <;> rfl), by (with_reducible repeat (first | apply Kd.R_alloc | apply Kd.R_drewN | apply Kd.R_drew)); exact Kd.R_mono (Kd.R_far (p := ⟨gb101, 3, none⟩) (Kd.R_far (p := ⟨gb101, 2, none⟩) (Kd.R_far (p := ⟨gb101, 1, none⟩) (Kd.R_far (p := ⟨gb101, 0, none⟩) (Kd.R_types HO_114001.out BK101.out (by decide)) (fun _ hk => hk.2) (.int .u8 t109)) (fun _ hk => hk.2) (.slice Ao101 x114001_31.length co101)) (fun _ hk => hk.2) (.slice Ao102 x114002_51.length co102)) (fun _ hk => hk.2) (.int .i64 t117)) (fun _ hk => trivial), by (with_reducible repeat (first | apply Kd.R_alloc | apply Kd.R_drewN | apply Kd.R_drew)); exact Kd.R_mono (Kd.R_far (p := ⟨gb101, 3, none⟩) (Kd.R_far (p := ⟨gb101, 2, none⟩) (Kd.R_far (p := ⟨gb101, 1, none⟩) (Kd.R_far (p := ⟨gb101, 0, none⟩) (Kd.R_types HO_114002.out BK101.out (by decide)) (fun _ hk => hk.2) (.int .u8 t109)) (fun _ hk => hk.2) (.slice Ao101 x114001_31.length co101)) (fun _ hk => hk.2) (.slice Ao102 x114002_51.length co102)) (fun _ hk => hk.2) (.int .i64 t117)) (fun _ hk => trivial), by repeat (first | (with_reducible first | exact HB.out | apply below_alloc | apply pw_below_drewN | apply below_drew1 | refine below_set ?_ (IsS56.ge HI102.out) | refine below_set ?_ GE101.out | refine below_set ?_ GE113.out) | exact HB.out)⟩
           ·rw [if_neg c94] at H
            have c94b0 : (x103002_51 == 0) = false := beq_eq_false_iff_ne.mpr c94
            have c94b1 : (x103002_51 != 0) = true := bne_iff_ne.mpr c94
            simp only [Option.some.injEq, Prod.mk.injEq] at H
            obtain ⟨rfl, rfl, rfl, rfl, rfl, rfl⟩ := H
            obtain ⟨ASz103_0, cSz103_0, HGz103, hgz103, ⟨HSz103_0, HTz103_0⟩⟩ := HI102.out
            have hcz103_0 := cellS56_0 HGz103
            have hcz103_1 := cellS56_1 HGz103
            have hcz103_2 := cellS56_2 HGz103
            have hcz103_3 := cellS56_3 HGz103
            have hfz103_1 := blk_frozen HGz103 1
            have hfz103_2 := blk_frozen HGz103 2
            have hfz103_3 := blk_frozen HGz103 3
            clear HGz103 hgz103
            try go_wp2
            have n0_ := Aside0.mk (Kd.R_drew HO_114001.out)
            have n1_ := Aside0.mk (Kd.R_drew HO_114002.out)
            have n2_ := Aside0.mk (blk_drew BK101.out)
            have n3_ := Aside0.mk (blk_drew BK113.out)
            have n4_ := Aside0.mk (IsS56.drew HI102.out)
            have n5_ := Aside0.mk (below_drew1 HB.out)
            clear HO_114001
            clear HO_114002
            clear BK101
            clear BK113
            clear HI102
            clear HB
            have HO_114001 := n0_
            have HO_114002 := n1_
            have BK101 := n2_
            have BK113 := n3_
            have HI102 := n4_
            have HB := n5_
            clear n0_ n1_ n2_ n3_ n4_ n5_
            obtain ⟨ASy109_0, cSy109_0, HGy109, hgy109, _⟩ := HI102.out
            have BKy109 := Aside0.mk (blk_drew HGy109)
            clear HGy109 hgy109
            refine start_ (n := 12) (S := fun w' => w'.cell? ⟨gb102, 0, none⟩ = some (.slice ASy109_0 l0.length cSy109_0) ∧ w'.cell? ⟨gb102, 1, none⟩ = some (.int .i64 x103001_51) ∧ w'.cell? ⟨gb102, 2, none⟩ = some (.int .i64 x103002_51) ∧ w'.cell? ⟨gb102, 3, none⟩ = some (.int .i64 x103003_51)) (ds := []) #[false, false, false, false, false, false, false, false, false, false, false, false] (by kernel_rfl) rfl rfl ⟨(blk_cell BKy109.out 0).trans rfl, (blk_cell BKy109.out 1).trans rfl, (blk_cell BKy109.out 2).trans rfl, (blk_cell BKy109.out 3).trans rfl⟩ (fun hHeld => ?_); refine with_tabW vouchref21_Decode.tab26 vouchref21_Decode.bits26 (fun HT_ HW_ => ?_)
            generalize wc.drew = w104 at BKy109 HO_114001 HO_114002 BK101 BK113 HI102 HB hHeld ⊢
            refine pu 0 (some 107) ?_; refine pu 1 (some 108) ?_; refine pu 2 (some 109) ?_; refine pu 3 (some 110) ?_; refine pu 5 (some 112) ?_; refine pu 6 (some 113) ?_; refine pu 7 (some 114) ?_; refine tk 4 (some 111) hHeld ?_; refine tk 8 (some 115) hHeld ?_
            refine on_ 9 none (fun K hK => ?_)
            have hs105 : w104.cell? ⟨gb101, 0, none⟩ = some (.int .u8 0) := (blk_cell BK101.out 0).trans rfl
            have hfs105 := blk_frozen BK101.out 0
            have hns105_1 := NB113_101.out
            have hms105_1 := NB101_113.out
            have hs106 : w104.cell? ⟨gb101, 1, none⟩ = some (.slice none 0 0) := (blk_cell BK101.out 1).trans rfl
            have hfs106 := blk_frozen BK101.out 1
            have hns106_1 := NB113_101.out
            have hms106_1 := NB101_113.out
            have hs107 : w104.cell? ⟨gb101, 2, none⟩ = some (.slice none 0 0) := (blk_cell BK101.out 2).trans rfl
            have hfs107 := blk_frozen BK101.out 2
            have hns107_1 := NB113_101.out
            have hms107_1 := NB101_113.out
            have hs108 : w104.cell? ⟨gb101, 3, none⟩ = some (.int .i64 0) := (blk_cell BK101.out 3).trans rfl
            have hfs108 := blk_frozen BK101.out 3
            have hns108_1 := NB113_101.out
            have hms108_1 := NB101_113.out
            refine skip_ (w1 := ?_) (by rfl) rfl ?_ ?_
            rotate_left
            ·go_simp
             rfl
            refine hK.out _ _ ⟨((cell_far (p := ⟨gb101, _, none⟩) NB102_101.out _).trans (((cell_far (p := ⟨gb101, _, none⟩) NB102_101.out _).trans (((cell_far (p := ⟨gb101, _, none⟩) NB102_101.out _).trans (((cell_far (p := ⟨gb101, _, none⟩) NB102_101.out _).trans (hHeld.1)))))))), ((cell_far (p := ⟨gb101, _, none⟩) NB102_101.out _).trans (((cell_far (p := ⟨gb101, _, none⟩) NB102_101.out _).trans (((cell_far (p := ⟨gb101, _, none⟩) NB102_101.out _).trans (((cell_far (p := ⟨gb101, _, none⟩) NB102_101.out _).trans (hHeld.2.1)))))))), ((cell_far (p := ⟨gb101, _, none⟩) NB102_101.out _).trans (((cell_far (p := ⟨gb101, _, none⟩) NB102_101.out _).trans (((cell_far (p := ⟨gb101, _, none⟩) NB102_101.out _).trans (((cell_far (p := ⟨gb101, _, none⟩) NB102_101.out _).trans (hHeld.2.2.1)))))))), ((cell_far (p := ⟨gb101, _, none⟩) NB102_101.out _).trans (((cell_far (p := ⟨gb101, _, none⟩) NB102_101.out _).trans (((cell_far (p := ⟨gb101, _, none⟩) NB102_101.out _).trans (((cell_far (p := ⟨gb101, _, none⟩) NB102_101.out _).trans (hHeld.2.2.2))))))))⟩ (fun hHeld => ?_)
            clear hK K
            refine pu 10 (some 3) ?_; refine pu 11 (some 4) ?_
            refine done_ (done_of HT_.out (by kernel_rfl)) ?_
            try go_wp2
            refine bodyPost_ret (results_ctt rfl _ _ gb101 25 #[.int .u8 0, .slice none 0 0, .slice none 0 0, .int .i64 0] (0, 0) _ rfl (by (with_reducible repeat (first | refine blk_drewN ?_ _ | refine blk_drew ?_ | refine blk_alloc ?_ _)); (try refine blk_put (cs := #[.int .u8 0, .slice none 0 0, .slice none 0 0, .int .i64 0]) ?_ 3 _ rfl); (with_reducible repeat (first | refine blk_drewN ?_ _ | refine blk_drew ?_ | refine blk_alloc ?_ _)); (try refine blk_put (cs := #[.int .u8 0, .slice none 0 0, .slice none 0 0, .int .i64 0]) ?_ 2 _ rfl); (with_reducible repeat (first | refine blk_drewN ?_ _ | refine blk_drew ?_ | refine blk_alloc ?_ _)); (try refine blk_put (cs := #[.int .u8 0, .slice none 0 0, .slice none 0 0, .int .i64 0]) ?_ 1 _ rfl); (with_reducible repeat (first | refine blk_drewN ?_ _ | refine blk_drew ?_ | refine blk_alloc ?_ _)); (try refine blk_put (cs := #[.int .u8 0, .slice none 0 0, .slice none 0 0, .int .i64 0]) ?_ 0 _ rfl); (with_reducible repeat (first | refine blk_drewN ?_ _ | refine blk_drew ?_ | refine blk_alloc ?_ _)); exact BK101.out) Try.underlying25 rfl (by kernel_rfl)) rfl ?_
            exact ⟨_, _, by first | rfl | (simp [errW_none, errW_some] <;> rfl) | (simp [*, errW_none, errW_some] <;> rfl), by first | exact Kd.R_nil _ _ _ _ _ | exact Kd.N_nil _ _ _ _ _ | exact Kd.V_nil _ _ _ _ _ | exact Kd.Q_nil _ _ _ _ _ | exact Kd.S_nil _ _ _ _ _, by first | exact Kd.R_nil _ _ _ _ _ | exact Kd.N_nil _ _ _ _ _ | exact Kd.V_nil _ _ _ _ _ | exact Kd.Q_nil _ _ _ _ _ | exact Kd.S_nil _ _ _ _ _, by repeat (first | (with_reducible first | exact HB.out | apply below_alloc | apply pw_below_drewN | apply below_drew1 | refine below_set ?_ (IsS56.ge HI102.out) | refine below_set ?_ GE101.out | refine below_set ?_ GE113.out) | exact HB.out)⟩

end Go.Proofs.Ytmhmappdohddeaa.H
