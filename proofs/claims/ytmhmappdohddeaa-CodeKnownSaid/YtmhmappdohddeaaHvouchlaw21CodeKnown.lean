-- WRITTEN BY A PROGRAM OF THIS SESSION (hprint.py, compress.py), out of the translation. Lean checks it.
import Derived.Test.YtmhmappdohddeaaHx0
import Derived.Test.YtmhmappdohddeaaWStep
import Derived.Test.YtmhmappdohddeaaWMore
import Derived.Test.YtmhmappdohddeaaWMore2
import Derived.Test.YtmhmappdohddeaaWMore3
import Derived.Test.YtmhmappdohddeaaHx1
import Derived.Test.YtmhmappdohddeaaWBlit
import Derived.Test.YtmhmappdohddeaaHcodeEncode
import Derived.Test.YtmhmappdohddeaaHvouchlaw21works
import Derived.Test.YtmhmappdohddeaaHcodeCheck
import Derived.Test.YtmhmappdohddeaaHcodeDecode
import Derived.Test.YtmhmappdohddeaaHvouchlaw21wrong
namespace Go.Proofs.Ytmhmappdohddeaa.H
open Go.RowKit Go.Proofs.YtmhmappdohddeaaW.PrintWords Go.Proofs.YtmhmappdohddeaaW.PrintLast Go.Proofs.YtmhmappdohddeaaW.PrintMore
attribute [local go_sem] max2_int min2_int max_two min_two max_three min_three max_four min_four   -- for this text's walks alone
set_option linter.unusedVariables false
set_option linter.unusedSimpArgs false
set_option maxRecDepth 100000

/-! ### vouchlaw21_CodeKnown: function 9 -/
mutual
def vouchlaw21_CodeKnown.j0 : Nat → Bool → Option (Bool)
 | 0, _ => none
 | k + 1, x4 => (vouchlaw21_wrong.f k (⟨#[86, 80, 1, 128, 0, 0, 0]⟩ : ByteArray) 210 3).bind fun t112 => (if t112 = true then ((vouchlaw21_wrong.f k (⟨#[86, 80, 3]⟩ : ByteArray) 210 2).bind fun t113 => (if t113 = true then ((vouchlaw21_wrong.f k (⟨#[86, 80, 1, 0, 0, 1, 39]⟩ : ByteArray) 210 6).bind fun t114 => (if t114 = true then ((vouchlaw21_wrong.f k (⟨#[86, 80, 1, 0, 0]⟩ : ByteArray) 210 5).bind fun t115 => (if t115 = true then ((vouchlaw21_wrong.f k (⟨#[]⟩ : ByteArray) 210 0).bind fun t116 => (if t116 = true then ((vouchlaw21_wrong.f k (⟨#[86, 80, 1, 0, 0, 0, 7]⟩ : ByteArray) 210 6).bind fun t117 => (if t117 = true then ((vouchlaw21_wrong.f k (⟨#[87]⟩ : ByteArray) 210 0).bind fun t118 => (if t118 = true then ((vouchlaw21_wrong.f k (⟨#[86, 81]⟩ : ByteArray) 210 1).bind fun t119 => (vouchlaw21_CodeKnown.j1 k x4 t119)) else (vouchlaw21_CodeKnown.j1 k x4 false))) else (vouchlaw21_CodeKnown.j1 k x4 false))) else (vouchlaw21_CodeKnown.j1 k x4 false))) else (vouchlaw21_CodeKnown.j1 k x4 false))) else (vouchlaw21_CodeKnown.j1 k x4 false))) else (vouchlaw21_CodeKnown.j1 k x4 false))) else (vouchlaw21_CodeKnown.j1 k x4 false))
def vouchlaw21_CodeKnown.j1 : Nat → Bool → Bool → Option (Bool)
 | 0, _, _ => none
 | k + 1, x4, x5 => (vouchlaw21_wrong.f k (⟨#[86, 80, 1, 255, 255, 255, 255, 8]⟩ : ByteArray) 210 3).bind fun t120 => (if t120 = true then ((vouchlaw21_wrong.f k (⟨#[86, 80, 1, 255, 255, 255, 255, 255]⟩ : ByteArray) 210 3).bind fun t121 => (if t121 = true then ((vouchlaw21_wrong.f k (⟨#[86, 80, 1, 255, 255, 255, 255]⟩ : ByteArray) 210 7).bind fun t122 => (if t122 = true then ((vouchlaw21_wrong.f k (⟨#[86, 80, 1, 0, 129, 64]⟩ : ByteArray) 3 4).bind fun t123 => (if t123 = true then ((vouchlaw21_wrong.f k (⟨#[86, 80, 1, 0, 0, 129, 128, 2]⟩ : ByteArray) 3 5).bind fun t124 => (if t124 = true then ((vouchlaw21_wrong.f k (⟨#[86, 80, 1, 0, 1, 5, 97, 98]⟩ : ByteArray) 210 8).bind fun t125 => (if t125 = true then ((vouchlaw21_wrong.f k (⟨#[86, 80, 1, 0, 0, 1, 0]⟩ : ByteArray) 210 6).bind fun t126 => (vouchlaw21_CodeKnown.j2 k x4 x5 t126)) else (vouchlaw21_CodeKnown.j2 k x4 x5 false))) else (vouchlaw21_CodeKnown.j2 k x4 x5 false))) else (vouchlaw21_CodeKnown.j2 k x4 x5 false))) else (vouchlaw21_CodeKnown.j2 k x4 x5 false))) else (vouchlaw21_CodeKnown.j2 k x4 x5 false))) else (vouchlaw21_CodeKnown.j2 k x4 x5 false))
def vouchlaw21_CodeKnown.j2 : Nat → Bool → Bool → Bool → Option (Bool)
 | 0, _, _, _ => none
 | k + 1, x4, x5, x6 => (code_Decode.f k (([86, 80, 1, 255, 255, 255, 255, 7, 0, 1, 33] : List Int))).bind fun bt131 => (if bt131.2.2.2.2.2 = 0 then (vouchlaw21_CodeKnown.j3 k x4 x5 x6 (bt131.2.2.2.1 == 2147483647)) else (vouchlaw21_CodeKnown.j3 k x4 x5 x6 false))
def vouchlaw21_CodeKnown.j3 : Nat → Bool → Bool → Bool → Bool → Option (Bool)
 | 0, _, _, _, _ => none
 | k + 1, x4, x5, x6, x10 => vouchlaw21_CodeKnown.l0 k x4 x5 x6 x10 (([(⟨0, ([] : List ByteArray), (([(⟨33, 0, 0⟩ : S41)] : List (S41))), 0⟩ : S25), (⟨3, ([] : List ByteArray), ([] : List (S41)), 0⟩ : S25), (⟨1, ([] : List ByteArray), ([] : List (S41)), (-1)⟩ : S25), (⟨1, ([] : List ByteArray), ([] : List (S41)), 2147483648⟩ : S25), (⟨1, ([] : List ByteArray), (([(⟨33, 1, 0⟩ : S41)] : List (S41))), 0⟩ : S25), (⟨1, ([] : List ByteArray), (([(⟨1, 0, 1⟩ : S41)] : List (S41))), 0⟩ : S25), (⟨1, ([] : List ByteArray), (([(⟨0, 0, 0⟩ : S41)] : List (S41))), 0⟩ : S25), (⟨1, ([] : List ByteArray), (([(⟨39, 0, 0⟩ : S41)] : List (S41))), 0⟩ : S25), (⟨1, ([] : List ByteArray), (([(⟨37, (-1), 0⟩ : S41)] : List (S41))), 0⟩ : S25), (⟨1, ([] : List ByteArray), (([(⟨28, 2147483648, 0⟩ : S41)] : List (S41))), 0⟩ : S25)] : List (S25))) 0
def vouchlaw21_CodeKnown.l0 : Nat → Bool → Bool → Bool → Bool → List (S25) → Int → Option (Bool)
 | 0, _, _, _, _, _, _ => none
 | k + 1, x4, x5, x6, x10, x11, x12 => if x12 < (x11.length : Int) then (if 0 ≤ x12 then ((code_Check.f k ((rd_T25 x11 x12).f0) ((rd_T25 x11 x12).f1) ((rd_T25 x11 x12).f2) ((rd_T25 x11 x12).f3)).bind fun t167 => (if t167 = 210 then (vouchlaw21_CodeKnown.l0 k x4 x5 x6 x10 x11 (wrap64 (x12 + 1))) else (some false))) else (none)) else (vouchlaw21_CodeKnown.l1 k x4 x5 x6 x10 (⟨#[120, 120, 120, 120, 120, 120, 120, 120]⟩ : ByteArray))
def vouchlaw21_CodeKnown.l1 : Nat → Bool → Bool → Bool → Bool → ByteArray → Option (Bool)
 | 0, _, _, _, _, _ => none
 | k + 1, x4, x5, x6, x10, x13 => if (x13.size : Int) < 1048576 then (if x13.size + x13.size ≤ 9223372036854775807 then (vouchlaw21_CodeKnown.l1 k x4 x5 x6 x10 (x13 ++ x13)) else (none)) else ((code_Check.f k 1 (([x13] : List ByteArray)) ([] : List (S41)) 0).bind fun t171 => (if t171 = 3 then (if 0 ≤ 1048567 then (if 1048567 ≤ (x13.size : Int) then ((code_Check.f k 1 (([x13.extract 0 1048567] : List ByteArray)) ([] : List (S41)) 0).bind fun t175 => (if t175 = 0 then (if 0 ≤ 1048568 then (if 1048568 ≤ (x13.size : Int) then ((code_Check.f k 1 (([x13.extract 0 1048568] : List ByteArray)) ([] : List (S41)) 0).bind fun t179 => (if t179 = 3 then (if x13.size + 1 ≤ 9223372036854775807 then ((vouchlaw21_wrong.f k (x13 ++ (⟨#[120]⟩ : ByteArray)) 3 0).bind fun t180 => (if t180 = true then ((vouchlaw21_wrong.f k x13 210 0).bind fun t181 => (vouchlaw21_CodeKnown.j6 k x4 x5 x6 x10 t181)) else (vouchlaw21_CodeKnown.j6 k x4 x5 x6 x10 false))) else (none)) else (vouchlaw21_CodeKnown.j6 k x4 x5 x6 x10 false))) else (none)) else (none)) else (vouchlaw21_CodeKnown.j6 k x4 x5 x6 x10 false))) else (none)) else (none)) else (vouchlaw21_CodeKnown.j6 k x4 x5 x6 x10 false)))
def vouchlaw21_CodeKnown.j6 : Nat → Bool → Bool → Bool → Bool → Bool → Option (Bool)
 | 0, _, _, _, _, _ => none
 | k + 1, x4, x5, x6, x10, x14 => if 32769 ≤ 11728124029610 then ((code_Check.f k 0 ([] : List ByteArray) (List.replicate 32769 z41) 0).bind fun t185 => (if t185 = 3 then (if 8193 ≤ 17592186044416 then ((code_Check.f k 0 (List.replicate 8193 (⟨#[]⟩ : ByteArray)) ([] : List (S41)) 0).bind fun t189 => (if t189 = 3 then (if 8192 ≤ 17592186044416 then ((code_Check.f k 2 (List.replicate 8192 (⟨#[]⟩ : ByteArray)) ([] : List (S41)) 0).bind fun t193 => (if x4 = true then (if x5 = true then (if x6 = true then (if x10 = true then (if x14 = true then (if t193 = 0 then ((vouchlaw21_works.f k).bind fun t194 => (some t194)) else (some false)) else (some false)) else (some false)) else (some false)) else (some false)) else (some false))) else (none)) else (if x4 = true then (if x5 = true then (if x6 = true then (if x10 = true then (if x14 = true then (some false) else (some false)) else (some false)) else (some false)) else (some false)) else (some false)))) else (none)) else (if x4 = true then (if x5 = true then (if x6 = true then (if x10 = true then (if x14 = true then (some false) else (some false)) else (some false)) else (some false)) else (some false)) else (some false)))) else (none)
end
def vouchlaw21_CodeKnown.f (k : Nat)  : Option (Bool) := (code_Encode.f k 2 (([(⟨#[97]⟩ : ByteArray)] : List ByteArray)) (([(⟨34, 0, 0⟩ : S41), (⟨37, 1, 1⟩ : S41), (⟨38, 0, 0⟩ : S41)] : List (S41))) 300).bind fun bt108 => (if bt108.2 = 0 then (vouchlaw21_CodeKnown.j0 k ((strOfNums bt108.1).toList == ([86, 80, 2, 172, 2, 1, 1, 97, 3, 34, 0, 37, 1, 1, 38] : List UInt8))) else (vouchlaw21_CodeKnown.j0 k false))
theorem vouchlaw21_CodeKnown.mono_l : ∀ k, (∀ y0, LeO (vouchlaw21_CodeKnown.j0 k y0) (vouchlaw21_CodeKnown.j0 (k + 1) y0)) ∧ (∀ y0 y1, LeO (vouchlaw21_CodeKnown.j1 k y0 y1) (vouchlaw21_CodeKnown.j1 (k + 1) y0 y1)) ∧ (∀ y0 y1 y2, LeO (vouchlaw21_CodeKnown.j2 k y0 y1 y2) (vouchlaw21_CodeKnown.j2 (k + 1) y0 y1 y2)) ∧ (∀ y0 y1 y2 y3, LeO (vouchlaw21_CodeKnown.j3 k y0 y1 y2 y3) (vouchlaw21_CodeKnown.j3 (k + 1) y0 y1 y2 y3)) ∧ (∀ y0 y1 y2 y3 y4 y5, LeO (vouchlaw21_CodeKnown.l0 k y0 y1 y2 y3 y4 y5) (vouchlaw21_CodeKnown.l0 (k + 1) y0 y1 y2 y3 y4 y5)) ∧ (∀ y0 y1 y2 y3 y4, LeO (vouchlaw21_CodeKnown.l1 k y0 y1 y2 y3 y4) (vouchlaw21_CodeKnown.l1 (k + 1) y0 y1 y2 y3 y4)) ∧ (∀ y0 y1 y2 y3 y4, LeO (vouchlaw21_CodeKnown.j6 k y0 y1 y2 y3 y4) (vouchlaw21_CodeKnown.j6 (k + 1) y0 y1 y2 y3 y4))
 | 0 => ⟨fun _ r h => by simp [vouchlaw21_CodeKnown.j0] at h, fun _ _ r h => by simp [vouchlaw21_CodeKnown.j1] at h, fun _ _ _ r h => by simp [vouchlaw21_CodeKnown.j2] at h, fun _ _ _ _ r h => by simp [vouchlaw21_CodeKnown.j3] at h, fun _ _ _ _ _ _ r h => by simp [vouchlaw21_CodeKnown.l0] at h, fun _ _ _ _ _ r h => (by change none = some r at h; cases h), fun _ _ _ _ _ r h => by simp [vouchlaw21_CodeKnown.j6] at h⟩
 | k + 1 => by
  obtain ⟨ih0, ih1, ih2, ih3, ih4, ih5, ih6⟩ := vouchlaw21_CodeKnown.mono_l k
  refine ⟨?_, ?_, ?_, ?_, ?_, ?_, ?_⟩
  ·intro y0
   unfold vouchlaw21_CodeKnown.j0
   repeat' first
   | (with_reducible exact ih0 _)
   | (with_reducible exact ih1 _ _)
   | (with_reducible exact ih2 _ _ _)
   | (with_reducible exact ih3 _ _ _ _)
   | (with_reducible exact ih4 _ _ _ _ _ _)
   | (with_reducible exact ih5 _ _ _ _ _)
   | (with_reducible exact ih6 _ _ _ _ _)
   | (with_reducible exact code_Check.mono _ _ _ _ _)
   | (with_reducible exact code_Decode.mono _ _)
   | (with_reducible exact code_Encode.mono _ _ _ _ _)
   | (with_reducible exact vouchlaw21_works.mono _)
   | (with_reducible exact vouchlaw21_wrong.mono _ _ _ _)
   | (with_reducible exact LeO.refl _)
   | (with_reducible exact LeO.none _)
   | (with_reducible refine LeO.ite ?_ ?_)
   | (with_reducible refine LeO.bind ?_ (fun _ => ?_))
   | exact ih0 _
   | exact ih1 _ _
   | exact ih2 _ _ _
   | exact ih3 _ _ _ _
   | exact ih4 _ _ _ _ _ _
   | exact ih5 _ _ _ _ _
   | exact ih6 _ _ _ _ _
   | exact code_Check.mono _ _ _ _ _
   | exact code_Decode.mono _ _
   | exact code_Encode.mono _ _ _ _ _
   | exact vouchlaw21_works.mono _
   | exact vouchlaw21_wrong.mono _ _ _ _
   | exact LeO.none _
   | refine LeO.ite ?_ ?_
   | refine LeO.bind ?_ (fun _ => ?_)
  ·intro y0 y1
   unfold vouchlaw21_CodeKnown.j1
   repeat' first
   | (with_reducible exact ih0 _)
   | (with_reducible exact ih1 _ _)
   | (with_reducible exact ih2 _ _ _)
   | (with_reducible exact ih3 _ _ _ _)
   | (with_reducible exact ih4 _ _ _ _ _ _)
   | (with_reducible exact ih5 _ _ _ _ _)
   | (with_reducible exact ih6 _ _ _ _ _)
   | (with_reducible exact code_Check.mono _ _ _ _ _)
   | (with_reducible exact code_Decode.mono _ _)
   | (with_reducible exact code_Encode.mono _ _ _ _ _)
   | (with_reducible exact vouchlaw21_works.mono _)
   | (with_reducible exact vouchlaw21_wrong.mono _ _ _ _)
   | (with_reducible exact LeO.refl _)
   | (with_reducible exact LeO.none _)
   | (with_reducible refine LeO.ite ?_ ?_)
   | (with_reducible refine LeO.bind ?_ (fun _ => ?_))
   | exact ih0 _
   | exact ih1 _ _
   | exact ih2 _ _ _
   | exact ih3 _ _ _ _
   | exact ih4 _ _ _ _ _ _
   | exact ih5 _ _ _ _ _
   | exact ih6 _ _ _ _ _
   | exact code_Check.mono _ _ _ _ _
   | exact code_Decode.mono _ _
   | exact code_Encode.mono _ _ _ _ _
   | exact vouchlaw21_works.mono _
   | exact vouchlaw21_wrong.mono _ _ _ _
   | exact LeO.none _
   | refine LeO.ite ?_ ?_
   | refine LeO.bind ?_ (fun _ => ?_)
  ·intro y0 y1 y2
   unfold vouchlaw21_CodeKnown.j2
   repeat' first
   | (with_reducible exact ih0 _)
   | (with_reducible exact ih1 _ _)
   | (with_reducible exact ih2 _ _ _)
   | (with_reducible exact ih3 _ _ _ _)
   | (with_reducible exact ih4 _ _ _ _ _ _)
   | (with_reducible exact ih5 _ _ _ _ _)
   | (with_reducible exact ih6 _ _ _ _ _)
   | (with_reducible exact code_Check.mono _ _ _ _ _)
   | (with_reducible exact code_Decode.mono _ _)
   | (with_reducible exact code_Encode.mono _ _ _ _ _)
   | (with_reducible exact vouchlaw21_works.mono _)
   | (with_reducible exact vouchlaw21_wrong.mono _ _ _ _)
   | (with_reducible exact LeO.refl _)
   | (with_reducible exact LeO.none _)
   | (with_reducible refine LeO.ite ?_ ?_)
   | (with_reducible refine LeO.bind ?_ (fun _ => ?_))
   | exact ih0 _
   | exact ih1 _ _
   | exact ih2 _ _ _
   | exact ih3 _ _ _ _
   | exact ih4 _ _ _ _ _ _
   | exact ih5 _ _ _ _ _
   | exact ih6 _ _ _ _ _
   | exact code_Check.mono _ _ _ _ _
   | exact code_Decode.mono _ _
   | exact code_Encode.mono _ _ _ _ _
   | exact vouchlaw21_works.mono _
   | exact vouchlaw21_wrong.mono _ _ _ _
   | exact LeO.none _
   | refine LeO.ite ?_ ?_
   | refine LeO.bind ?_ (fun _ => ?_)
  ·intro y0 y1 y2 y3
   unfold vouchlaw21_CodeKnown.j3
   repeat' first
   | (with_reducible exact ih0 _)
   | (with_reducible exact ih1 _ _)
   | (with_reducible exact ih2 _ _ _)
   | (with_reducible exact ih3 _ _ _ _)
   | (with_reducible exact ih4 _ _ _ _ _ _)
   | (with_reducible exact ih5 _ _ _ _ _)
   | (with_reducible exact ih6 _ _ _ _ _)
   | (with_reducible exact code_Check.mono _ _ _ _ _)
   | (with_reducible exact code_Decode.mono _ _)
   | (with_reducible exact code_Encode.mono _ _ _ _ _)
   | (with_reducible exact vouchlaw21_works.mono _)
   | (with_reducible exact vouchlaw21_wrong.mono _ _ _ _)
   | (with_reducible exact LeO.refl _)
   | (with_reducible exact LeO.none _)
   | (with_reducible refine LeO.ite ?_ ?_)
   | (with_reducible refine LeO.bind ?_ (fun _ => ?_))
   | exact ih0 _
   | exact ih1 _ _
   | exact ih2 _ _ _
   | exact ih3 _ _ _ _
   | exact ih4 _ _ _ _ _ _
   | exact ih5 _ _ _ _ _
   | exact ih6 _ _ _ _ _
   | exact code_Check.mono _ _ _ _ _
   | exact code_Decode.mono _ _
   | exact code_Encode.mono _ _ _ _ _
   | exact vouchlaw21_works.mono _
   | exact vouchlaw21_wrong.mono _ _ _ _
   | exact LeO.none _
   | refine LeO.ite ?_ ?_
   | refine LeO.bind ?_ (fun _ => ?_)
  ·intro y0 y1 y2 y3 y4 y5
   unfold vouchlaw21_CodeKnown.l0
   repeat' first
   | (with_reducible exact ih0 _)
   | (with_reducible exact ih1 _ _)
   | (with_reducible exact ih2 _ _ _)
   | (with_reducible exact ih3 _ _ _ _)
   | (with_reducible exact ih4 _ _ _ _ _ _)
   | (with_reducible exact ih5 _ _ _ _ _)
   | (with_reducible exact ih6 _ _ _ _ _)
   | (with_reducible exact code_Check.mono _ _ _ _ _)
   | (with_reducible exact code_Decode.mono _ _)
   | (with_reducible exact code_Encode.mono _ _ _ _ _)
   | (with_reducible exact vouchlaw21_works.mono _)
   | (with_reducible exact vouchlaw21_wrong.mono _ _ _ _)
   | (with_reducible exact LeO.refl _)
   | (with_reducible exact LeO.none _)
   | (with_reducible refine LeO.ite ?_ ?_)
   | (with_reducible refine LeO.bind ?_ (fun _ => ?_))
   | exact ih0 _
   | exact ih1 _ _
   | exact ih2 _ _ _
   | exact ih3 _ _ _ _
   | exact ih4 _ _ _ _ _ _
   | exact ih5 _ _ _ _ _
   | exact ih6 _ _ _ _ _
   | exact code_Check.mono _ _ _ _ _
   | exact code_Decode.mono _ _
   | exact code_Encode.mono _ _ _ _ _
   | exact vouchlaw21_works.mono _
   | exact vouchlaw21_wrong.mono _ _ _ _
   | exact LeO.none _
   | refine LeO.ite ?_ ?_
   | refine LeO.bind ?_ (fun _ => ?_)
  ·intro y0 y1 y2 y3 y4
   unfold vouchlaw21_CodeKnown.l1
   repeat' first
   | (with_reducible exact ih0 _)
   | (with_reducible exact ih1 _ _)
   | (with_reducible exact ih2 _ _ _)
   | (with_reducible exact ih3 _ _ _ _)
   | (with_reducible exact ih4 _ _ _ _ _ _)
   | (with_reducible exact ih5 _ _ _ _ _)
   | (with_reducible exact ih6 _ _ _ _ _)
   | (with_reducible exact code_Check.mono _ _ _ _ _)
   | (with_reducible exact code_Decode.mono _ _)
   | (with_reducible exact code_Encode.mono _ _ _ _ _)
   | (with_reducible exact vouchlaw21_works.mono _)
   | (with_reducible exact vouchlaw21_wrong.mono _ _ _ _)
   | (with_reducible exact LeO.refl _)
   | (with_reducible exact LeO.none _)
   | (with_reducible refine LeO.ite ?_ ?_)
   | (with_reducible refine LeO.bind ?_ (fun _ => ?_))
   | exact ih0 _
   | exact ih1 _ _
   | exact ih2 _ _ _
   | exact ih3 _ _ _ _
   | exact ih4 _ _ _ _ _ _
   | exact ih5 _ _ _ _ _
   | exact ih6 _ _ _ _ _
   | exact code_Check.mono _ _ _ _ _
   | exact code_Decode.mono _ _
   | exact code_Encode.mono _ _ _ _ _
   | exact vouchlaw21_works.mono _
   | exact vouchlaw21_wrong.mono _ _ _ _
   | exact LeO.none _
   | refine LeO.ite ?_ ?_
   | refine LeO.bind ?_ (fun _ => ?_)
  ·intro y0 y1 y2 y3 y4
   unfold vouchlaw21_CodeKnown.j6
   repeat' first
   | (with_reducible exact ih0 _)
   | (with_reducible exact ih1 _ _)
   | (with_reducible exact ih2 _ _ _)
   | (with_reducible exact ih3 _ _ _ _)
   | (with_reducible exact ih4 _ _ _ _ _ _)
   | (with_reducible exact ih5 _ _ _ _ _)
   | (with_reducible exact ih6 _ _ _ _ _)
   | (with_reducible exact code_Check.mono _ _ _ _ _)
   | (with_reducible exact code_Decode.mono _ _)
   | (with_reducible exact code_Encode.mono _ _ _ _ _)
   | (with_reducible exact vouchlaw21_works.mono _)
   | (with_reducible exact vouchlaw21_wrong.mono _ _ _ _)
   | (with_reducible exact LeO.refl _)
   | (with_reducible exact LeO.none _)
   | (with_reducible refine LeO.ite ?_ ?_)
   | (with_reducible refine LeO.bind ?_ (fun _ => ?_))
   | exact ih0 _
   | exact ih1 _ _
   | exact ih2 _ _ _
   | exact ih3 _ _ _ _
   | exact ih4 _ _ _ _ _ _
   | exact ih5 _ _ _ _ _
   | exact ih6 _ _ _ _ _
   | exact code_Check.mono _ _ _ _ _
   | exact code_Decode.mono _ _
   | exact code_Encode.mono _ _ _ _ _
   | exact vouchlaw21_works.mono _
   | exact vouchlaw21_wrong.mono _ _ _ _
   | exact LeO.none _
   | refine LeO.ite ?_ ?_
   | refine LeO.bind ?_ (fun _ => ?_)
theorem vouchlaw21_CodeKnown.mono : ∀ k, LeO (vouchlaw21_CodeKnown.f k ) (vouchlaw21_CodeKnown.f (k + 1) ) := by
 intro  k
 obtain ⟨ih0, ih1, ih2, ih3, ih4, ih5, ih6⟩ := vouchlaw21_CodeKnown.mono_l k
 unfold vouchlaw21_CodeKnown.f
 repeat' first
   | (with_reducible exact ih0 _)
   | (with_reducible exact ih1 _ _)
   | (with_reducible exact ih2 _ _ _)
   | (with_reducible exact ih3 _ _ _ _)
   | (with_reducible exact ih4 _ _ _ _ _ _)
   | (with_reducible exact ih5 _ _ _ _ _)
   | (with_reducible exact ih6 _ _ _ _ _)
   | (with_reducible exact code_Check.mono _ _ _ _ _)
   | (with_reducible exact code_Decode.mono _ _)
   | (with_reducible exact code_Encode.mono _ _ _ _ _)
   | (with_reducible exact vouchlaw21_works.mono _)
   | (with_reducible exact vouchlaw21_wrong.mono _ _ _ _)
   | (with_reducible exact LeO.refl _)
   | (with_reducible exact LeO.none _)
   | (with_reducible refine LeO.ite ?_ ?_)
   | (with_reducible refine LeO.bind ?_ (fun _ => ?_))
   | exact ih0 _
   | exact ih1 _ _
   | exact ih2 _ _ _
   | exact ih3 _ _ _ _
   | exact ih4 _ _ _ _ _ _
   | exact ih5 _ _ _ _ _
   | exact ih6 _ _ _ _ _
   | exact code_Check.mono _ _ _ _ _
   | exact code_Decode.mono _ _
   | exact code_Encode.mono _ _ _ _ _
   | exact vouchlaw21_works.mono _
   | exact vouchlaw21_wrong.mono _ _ _ _
   | exact LeO.none _
   | refine LeO.ite ?_ ?_
   | refine LeO.bind ?_ (fun _ => ?_)
set_option maxHeartbeats 8000000 in
set_option maxRecDepth 100000 in
theorem vouchlaw21_CodeKnown.check0 (k : Nat) (a0_0 : Int) (A0_1 : Option Addr) (c0_1 : Nat) (l0_1 : List ByteArray) (a0_3 : Int) (r : Int) (w : World) (hr0_1 : Kd.C Kd.string w A0_1 l0_1.length l0_1) (hc0_1 : l0_1.length ≤ c0_1) (h : code_Check.f k a0_0 l0_1 [] a0_3 = some r) :
 Calls Try.prog 13 #[.agg #[.int .u8 a0_0, .slice A0_1 l0_1.length c0_1, .slice none 0 0, .int .i64 a0_3]] w fun e w' => e = .returned (.int .i64 r) ∧ Below w.heap.size w w' :=
 code_Check.calls k a0_0 A0_1 c0_1 l0_1 none 0 [] a0_3 r w hr0_1 hc0_1 (Kd.C_nil _ _) (Nat.le_refl _) h
theorem vouchlaw21_CodeKnown.oB {α : Type} {o : Option α} {f : α → Option Bool} (h : ∀ t r, f t = some r → r = false) : ∀ r, o.bind f = some r → r = false := by
 intro r hr
 obtain ⟨t, _, ht⟩ := Option.bind_eq_some_iff.1 hr
 exact h t r ht
theorem vouchlaw21_CodeKnown.oI {c : Prop} [Decidable c] {a b : Option Bool} (h1 : c → ∀ r, a = some r → r = false) (h2 : ¬ c → ∀ r, b = some r → r = false) : ∀ r, (if c then a else b) = some r → r = false := by
 intro r hr
 by_cases hc : c
 ·rw [if_pos hc] at hr; exact h1 hc r hr
 ·rw [if_neg hc] at hr; exact h2 hc r hr
theorem vouchlaw21_CodeKnown.oF : ∀ r, (some false : Option Bool) = some r → r = false := fun r h => (Option.some.inj h).symm
theorem vouchlaw21_CodeKnown.oN : ∀ r, (none : Option Bool) = some r → r = false := fun r h => by cases h
theorem vouchlaw21_CodeKnown.d_j6 (k : Nat) (a b c d e : Bool) (hb : (a && b && c && d && e) = false) : ∀ r, vouchlaw21_CodeKnown.j6 k a b c d e = some r → r = false := by
 cases k with
 | zero => exact vouchlaw21_CodeKnown.oN
 | succ k =>
 unfold vouchlaw21_CodeKnown.j6
 repeat' (first | with_reducible exact vouchlaw21_CodeKnown.oN | with_reducible exact vouchlaw21_CodeKnown.oF | with_reducible refine vouchlaw21_CodeKnown.oI (fun _ => ?_) (fun _ => ?_) | with_reducible refine vouchlaw21_CodeKnown.oB (fun _ => ?_))
 all_goals (exfalso; simp_all)
theorem vouchlaw21_CodeKnown.d_l1 (k : Nat) : ∀ (a b c d : Bool) (s : ByteArray) (_ : (a && b && c && d) = false), ∀ r, vouchlaw21_CodeKnown.l1 k a b c d s = some r → r = false := by
 induction k with
 | zero => exact fun _ _ _ _ _ _ => vouchlaw21_CodeKnown.oN
 | succ k ih =>
 intro a b c d s hb
 unfold vouchlaw21_CodeKnown.l1
 repeat' (first | with_reducible exact vouchlaw21_CodeKnown.oN | with_reducible exact vouchlaw21_CodeKnown.oF | with_reducible exact vouchlaw21_CodeKnown.d_j6 _ _ _ _ _ _ (by simp [hb]) | with_reducible exact ih _ _ _ _ _ hb | with_reducible refine vouchlaw21_CodeKnown.oI (fun _ => ?_) (fun _ => ?_) | with_reducible refine vouchlaw21_CodeKnown.oB (fun _ => ?_))
theorem vouchlaw21_CodeKnown.d_l0 (k : Nat) : ∀ (a b c d : Bool) (s : List S25) (i : Int) (_ : (a && b && c && d) = false), ∀ r, vouchlaw21_CodeKnown.l0 k a b c d s i = some r → r = false := by
 induction k with
 | zero => exact fun _ _ _ _ _ _ _ => vouchlaw21_CodeKnown.oN
 | succ k ih =>
 intro a b c d s i hb
 unfold vouchlaw21_CodeKnown.l0
 repeat' (first | with_reducible exact vouchlaw21_CodeKnown.oN | with_reducible exact vouchlaw21_CodeKnown.oF | with_reducible exact vouchlaw21_CodeKnown.d_l1 _ _ _ _ _ _ hb | with_reducible exact ih _ _ _ _ _ _ hb | with_reducible refine vouchlaw21_CodeKnown.oI (fun _ => ?_) (fun _ => ?_) | with_reducible refine vouchlaw21_CodeKnown.oB (fun _ => ?_))
theorem vouchlaw21_CodeKnown.d_j3 (k : Nat) (a b c d : Bool) (hb : (a && b && c && d) = false) : ∀ r, vouchlaw21_CodeKnown.j3 k a b c d = some r → r = false := by
 cases k with
 | zero => exact vouchlaw21_CodeKnown.oN
 | succ k =>
 unfold vouchlaw21_CodeKnown.j3
 exact vouchlaw21_CodeKnown.d_l0 _ _ _ _ _ _ _ hb
theorem vouchlaw21_CodeKnown.d_j2 (k : Nat) (a b c : Bool) (hb : (a && b && c) = false) : ∀ r, vouchlaw21_CodeKnown.j2 k a b c = some r → r = false := by
 cases k with
 | zero => exact vouchlaw21_CodeKnown.oN
 | succ k =>
 unfold vouchlaw21_CodeKnown.j2
 repeat' (first | with_reducible exact vouchlaw21_CodeKnown.oN | with_reducible exact vouchlaw21_CodeKnown.oF | with_reducible exact vouchlaw21_CodeKnown.d_j3 _ _ _ _ _ (by simp [hb]) | with_reducible refine vouchlaw21_CodeKnown.oI (fun _ => ?_) (fun _ => ?_) | with_reducible refine vouchlaw21_CodeKnown.oB (fun _ => ?_))
theorem vouchlaw21_CodeKnown.d_j1 (k : Nat) (a b : Bool) (hb : (a && b) = false) : ∀ r, vouchlaw21_CodeKnown.j1 k a b = some r → r = false := by
 cases k with
 | zero => exact vouchlaw21_CodeKnown.oN
 | succ k =>
 unfold vouchlaw21_CodeKnown.j1
 repeat' (first | with_reducible exact vouchlaw21_CodeKnown.oN | with_reducible exact vouchlaw21_CodeKnown.oF | with_reducible exact vouchlaw21_CodeKnown.d_j2 _ _ _ _ (by simp [hb]) | with_reducible refine vouchlaw21_CodeKnown.oI (fun _ => ?_) (fun _ => ?_) | with_reducible refine vouchlaw21_CodeKnown.oB (fun _ => ?_))
theorem vouchlaw21_CodeKnown.d_j0 (k : Nat) (a : Bool) (hb : a = false) : ∀ r, vouchlaw21_CodeKnown.j0 k a = some r → r = false := by
 cases k with
 | zero => exact vouchlaw21_CodeKnown.oN
 | succ k =>
 unfold vouchlaw21_CodeKnown.j0
 repeat' (first | with_reducible exact vouchlaw21_CodeKnown.oN | with_reducible exact vouchlaw21_CodeKnown.oF | with_reducible exact vouchlaw21_CodeKnown.d_j1 _ _ _ (by simp [hb]) | with_reducible refine vouchlaw21_CodeKnown.oI (fun _ => ?_) (fun _ => ?_) | with_reducible refine vouchlaw21_CodeKnown.oB (fun _ => ?_))
theorem vouchlaw21_CodeKnown.dead_j6 {k : Nat} {a b c d e r : Bool} (h : vouchlaw21_CodeKnown.j6 k a b c d e = some r) (hb : (a && b && c && d && e) = false) : r = false := vouchlaw21_CodeKnown.d_j6 k a b c d e hb r h
theorem vouchlaw21_CodeKnown.dead_j3 {k : Nat} {a b c d r : Bool} (h : vouchlaw21_CodeKnown.j3 k a b c d = some r) (hb : (a && b && c && d) = false) : r = false := vouchlaw21_CodeKnown.d_j3 k a b c d hb r h
theorem vouchlaw21_CodeKnown.dead_j2 {k : Nat} {a b c r : Bool} (h : vouchlaw21_CodeKnown.j2 k a b c = some r) (hb : (a && b && c) = false) : r = false := vouchlaw21_CodeKnown.d_j2 k a b c hb r h
theorem vouchlaw21_CodeKnown.dead_j1 {k : Nat} {a b r : Bool} (h : vouchlaw21_CodeKnown.j1 k a b = some r) (hb : (a && b) = false) : r = false := vouchlaw21_CodeKnown.d_j1 k a b hb r h
theorem vouchlaw21_CodeKnown.dead_j0 {k : Nat} {a r : Bool} (h : vouchlaw21_CodeKnown.j0 k a = some r) (hb : a = false) : r = false := vouchlaw21_CodeKnown.d_j0 k a hb r h
set_option maxHeartbeats 8000000 in
set_option maxRecDepth 100000 in
theorem vouchlaw21_CodeKnown.calls (k : Nat)  (r : Bool) (w : World) (h : vouchlaw21_CodeKnown.f k  = some r) (hr_ : r = true) :
  Calls Try.prog 9 #[] w fun e w' => e = .returned (.bool r) ∧ Below w.heap.size w w' := by
 have hu41 := Try.underlying41
 have hu25 := Try.underlying25
 have HB := Aside0.mk (Below.refl w.heap.size w)
 have H : ((code_Encode.f k 2 (([(⟨#[97]⟩ : ByteArray)] : List ByteArray)) (([(⟨34, 0, 0⟩ : S41), (⟨37, 1, 1⟩ : S41), (⟨38, 0, 0⟩ : S41)] : List (S41))) 300).bind fun bt108 => (if bt108.2 = 0 then (vouchlaw21_CodeKnown.j0 k ((strOfNums bt108.1).toList == ([86, 80, 2, 172, 2, 1, 1, 97, 3, 34, 0, 37, 1, 1, 38] : List UInt8))) else (vouchlaw21_CodeKnown.j0 k false))) = some r := h
 clear h
 obtain ⟨y101, hy101⟩ : ∃ y_ : List ByteArray, y_ = (([(⟨#[97]⟩ : ByteArray)] : List ByteArray)) := ⟨_, rfl⟩
 replace H : ((code_Encode.f k 2 y101 (([(⟨34, 0, 0⟩ : S41), (⟨37, 1, 1⟩ : S41), (⟨38, 0, 0⟩ : S41)] : List (S41))) 300).bind fun bt108 => (if bt108.2 = 0 then (vouchlaw21_CodeKnown.j0 k ((strOfNums bt108.1).toList == ([86, 80, 2, 172, 2, 1, 1, 97, 3, 34, 0, 37, 1, 1, 38] : List UInt8))) else (vouchlaw21_CodeKnown.j0 k false))) = some r := by first | (rw [hy101]; with_reducible exact H) | (have H2_ := (Option.bind_some _ _).symm.trans H; rw [hy101]; with_reducible exact H2_) | (have H2_ := (Option.bind_some _ _).symm.trans H; with_reducible exact H2_) | with_reducible exact H | (rw [hy101]; exact H) | exact H
 have Ny101 := Aside0.mk hy101
 clear hy101
 obtain ⟨y104, hy104⟩ : ∃ y_ : List (S41), y_ = (([(⟨34, 0, 0⟩ : S41), (⟨37, 1, 1⟩ : S41), (⟨38, 0, 0⟩ : S41)] : List (S41))) := ⟨_, rfl⟩
 replace H : ((code_Encode.f k 2 y101 y104 300).bind fun bt108 => (if bt108.2 = 0 then (vouchlaw21_CodeKnown.j0 k ((strOfNums bt108.1).toList == ([86, 80, 2, 172, 2, 1, 1, 97, 3, 34, 0, 37, 1, 1, 38] : List UInt8))) else (vouchlaw21_CodeKnown.j0 k false))) = some r := by first | (rw [hy104]; with_reducible exact H) | (have H2_ := (Option.bind_some _ _).symm.trans H; rw [hy104]; with_reducible exact H2_) | (have H2_ := (Option.bind_some _ _).symm.trans H; with_reducible exact H2_) | with_reducible exact H | (rw [hy104]; exact H) | exact H
 have Ny104 := Aside0.mk hy104
 clear hy104
 replace H := Option.bind_eq_some_iff.mp H
 obtain ⟨⟨t108, t111⟩, A10, H⟩ := H
 replace H : (if t111 = 0 then (vouchlaw21_CodeKnown.j0 k ((strOfNums t108).toList == ([86, 80, 2, 172, 2, 1, 1, 97, 3, 34, 0, 37, 1, 1, 38] : List UInt8))) else (vouchlaw21_CodeKnown.j0 k false)) = some r := H
 have A1 := Aside0.mk A10
 clear A10
 have HC2 := Aside0.mk H
 clear H
 go_enter Try.func9, Try.ntmps9
 go_upto_region 3 with (first | ((with_reducible refine gate_dst (N := 16) rfl ?_); (try (refine gate_guard (by rfl) ?_; dsimp only)); refine Kd.R_lit Kd.string _ 9 ?hg (N := 16) ?hd (xs := ([(⟨#[97]⟩ : ByteArray)] : List ByteArray)) (inner := [.string (⟨#[97]⟩ : ByteArray)]) (ok := fun _ => True) (okp := fun _ => True) ?hr ?hp (fun _ hk => hk) trivial (Below.refl _ _) (Nat.le_refl _) (by simp) ?_; (case hd => rfl); (case hg => rfl); (case hr => first | (go_simp; done) | (go_simp; rfl)); (case hp => exact (Reps.one (show Kd.M Kd.string _ _ _ (⟨#[97]⟩ : ByteArray) [.string (⟨#[97]⟩ : ByteArray)] from rfl) (Reps.none _ _))); intro v102 w3 ho4 hb hg_ hnew_; clear hg_ hnew_; (first | rw [← Ny101.out] at ho4 | (simp only [Int.reduceToNat] at ho4; rw [← Ny101.out] at ho4)); have n0_ := Aside0.mk (Kd.R_lower ho4 (below_size (bl HB))); have n1_ := Aside0.mk (below_step (bl HB) hb); clear HB; have HO103 := n0_; have HB := n1_; clear n0_ n1_; clear hb ho4) | ((with_reducible refine gate_dst (N := 20) rfl ?_); (try (refine gate_guard (by rfl) ?_; dsimp only)); refine Kd.R_lit k41 _ 41 ?hg (N := 20) ?hd (xs := ([(⟨34, 0, 0⟩ : S41), (⟨37, 1, 1⟩ : S41), (⟨38, 0, 0⟩ : S41)] : List (S41))) (inner := [.int .u8 34, .int .i64 0, .int .i64 0, .int .u8 37, .int .i64 1, .int .i64 1, .int .u8 38, .int .i64 0, .int .i64 0]) (ok := fun _ => True) (okp := fun _ => True) ?hr ?hp (fun _ hk => hk) trivial (Below.refl _ _) (Nat.le_refl _) (by simp) ?_; (case hd => rfl); (case hg => rfl); (case hr => first | (go_simp; done) | (go_simp; rfl)); (case hp => exact (Reps.c3 (show Kd.M k41 _ _ _ (⟨34, 0, 0⟩ : S41) [.int .u8 34, .int .i64 0, .int .i64 0] from (k41_mkM _ _ _ (⟨34, 0, 0⟩ : S41) )) (Reps.c3 (show Kd.M k41 _ _ _ (⟨37, 1, 1⟩ : S41) [.int .u8 37, .int .i64 1, .int .i64 1] from (k41_mkM _ _ _ (⟨37, 1, 1⟩ : S41) )) (Reps.c3 (show Kd.M k41 _ _ _ (⟨38, 0, 0⟩ : S41) [.int .u8 38, .int .i64 0, .int .i64 0] from (k41_mkM _ _ _ (⟨38, 0, 0⟩ : S41) )) (Reps.none _ _))))); intro v105 w5 ho6 hb hg_ hnew_; clear hg_ hnew_; (first | rw [← Ny104.out] at ho6 | (simp only [Int.reduceToNat] at ho6; rw [← Ny104.out] at ho6)); have n0_ := Aside0.mk (Kd.R_below (kr HO103) hb); have n1_ := Aside0.mk (Kd.R_lower ho6 (below_size (bl HB))); have n2_ := Aside0.mk (below_step (bl HB) hb); clear HO103; clear HB; have HO103 := n0_; have HO106 := n1_; have HB := n2_; clear n0_ n1_ n2_; clear hb ho6; obtain ⟨Ao7, co7, eo7⟩ := Kd.R_slice HO106.out; subst eo7; obtain ⟨Ao8, co8, eo8⟩ := Kd.R_slice HO103.out; subst eo8) | ((with_reducible refine gate_dst (N := 1) rfl ?_); (try (refine gate_guard (by rfl) ?_; dsimp only)); refine box_event ?hg (N := 1) ?hd (cs := #[.int .u8 0, .slice none 0 0, .slice none 0 0, .int .i64 0]) (t := 25) ?hr ?_; (case hd => rfl); (case hg => rfl); (case hr => first | (go_simp; done) | (go_simp; rfl)); intro gb107 hg w9 hbox hb; have n0_ := Aside0.mk (Kd.R_below (kr HO103) hb); have n1_ := Aside0.mk (Kd.R_below (kr HO106) hb); have n2_ := Aside0.mk (below_step (bl HB) hb); have n3_ := Aside0.mk (hbox); have n4_ := Aside0.mk ((by rw [hg]; exact (below_size (bl HB)) : w.heap.size ≤ gb107)); have n5_ := Aside0.mk ((by rw [hg]; exact (below_size (bl HB)) : w.heap.size ≤ gb107)); clear HO103; clear HO106; clear HB; have HO103 := n0_; have HO106 := n1_; have HB := n2_; have BK107 := n3_; have GW107 := n4_; have GE107 := n5_; clear n0_ n1_ n2_ n3_ n4_ n5_; clear hb hbox hg; have hcz10_0 : w9.cell? ⟨gb107, 0, none⟩ = some (.int .u8 0) := (blk_cell BK107.out 0).trans rfl; have hcz10_1 : w9.cell? ⟨gb107, 1, none⟩ = some (.slice none 0 0) := (blk_cell BK107.out 1).trans rfl; have hcz10_2 : w9.cell? ⟨gb107, 2, none⟩ = some (.slice none 0 0) := (blk_cell BK107.out 2).trans rfl; have hcz10_3 : w9.cell? ⟨gb107, 3, none⟩ = some (.int .i64 0) := (blk_cell BK107.out 3).trans rfl; have hfz10_0 := blk_frozen BK107.out 0; have hfz10_1 := blk_frozen BK107.out 1; have hfz10_2 := blk_frozen BK107.out 2; have hfz10_3 := blk_frozen BK107.out 3) | ((with_reducible refine gate_callee (f := 11) rfl ?_); refine goesL_ (some 24) rfl rfl Try.func11 (by kernel_rfl) rfl #[.agg #[.int .u8 2, .slice Ao8 y101.length co8, .slice Ao7 y104.length co7, .int .i64 300]] rfl (by (try simp only [List.map_toArray, List.map_cons, List.map_nil]); first | done | rfl | (simp only [List.length_drop, List.length_take]; rfl)) ?_; (with_reducible refine (code_Encode.calls k 2 _ _ y101 _ _ y104 300 t108 t111 _ ?side1 ?side2 ?side3 ?side4 A1.out).mono ?_); (case side1 => refine (Kd.R_reads' (e := 9) (base := w.heap.size) (ok := fun k_ => True) (n := y101.length) (c := co8) ?_).2.2; exact (by (with_reducible repeat (first | apply Kd.R_alloc | apply Kd.R_drewN | apply Kd.R_drew)); exact (Kd.R_mono (Kd.R_far (p := ⟨gb107, 3, none⟩) (Kd.R_far (p := ⟨gb107, 2, none⟩) (Kd.R_far (p := ⟨gb107, 1, none⟩) (Kd.R_far (p := ⟨gb107, 0, none⟩) (Kd.R_types HO103.out BK107.out (by decide)) (fun _ hk => hk.2) (.int .u8 2)) (fun _ hk => hk.2) (.slice Ao8 y101.length co8)) (fun _ hk => hk.2) (.slice Ao7 y104.length co7)) (fun _ hk => hk.2) (.int .i64 300)) (fun _ h_ => h_.1)))); (case side2 => exact (Kd.R_reads' HO103.out).2.1); (case side3 => refine (Kd.R_reads' (e := 41) (base := w.heap.size) (ok := fun k_ => True) (n := y104.length) (c := co7) ?_).2.2; exact (by (with_reducible repeat (first | apply Kd.R_alloc | apply Kd.R_drewN | apply Kd.R_drew)); exact (Kd.R_mono (Kd.R_far (p := ⟨gb107, 3, none⟩) (Kd.R_far (p := ⟨gb107, 2, none⟩) (Kd.R_far (p := ⟨gb107, 1, none⟩) (Kd.R_far (p := ⟨gb107, 0, none⟩) (Kd.R_types HO106.out BK107.out (by decide)) (fun _ hk => hk.2) (.int .u8 2)) (fun _ hk => hk.2) (.slice Ao8 y101.length co8)) (fun _ hk => hk.2) (.slice Ao7 y104.length co7)) (fun _ hk => hk.2) (.int .i64 300)) (fun _ h_ => h_.1)))); (case side4 => exact (Kd.R_reads' HO106.out).2.1); rintro e w11 ⟨v109, rfl, ho0, hb⟩; refine ⟨_, rfl, ?_⟩; have n0_ := Aside0.mk (Kd.R_below (by (with_reducible repeat (first | apply Kd.R_alloc | apply Kd.R_drewN | apply Kd.R_drew)); exact (Kd.R_mono (Kd.R_far (p := ⟨gb107, 3, none⟩) (Kd.R_far (p := ⟨gb107, 2, none⟩) (Kd.R_far (p := ⟨gb107, 1, none⟩) (Kd.R_far (p := ⟨gb107, 0, none⟩) (Kd.R_types HO103.out BK107.out (by decide)) (fun _ hk => hk.2) (.int .u8 2)) (fun _ hk => hk.2) (.slice Ao8 y101.length co8)) (fun _ hk => hk.2) (.slice Ao7 y104.length co7)) (fun _ hk => hk.2) (.int .i64 300)) (fun _ h_ => h_.1))) hb); have n1_ := Aside0.mk (Kd.R_below (by (with_reducible repeat (first | apply Kd.R_alloc | apply Kd.R_drewN | apply Kd.R_drew)); exact (Kd.R_mono (Kd.R_far (p := ⟨gb107, 3, none⟩) (Kd.R_far (p := ⟨gb107, 2, none⟩) (Kd.R_far (p := ⟨gb107, 1, none⟩) (Kd.R_far (p := ⟨gb107, 0, none⟩) (Kd.R_types HO106.out BK107.out (by decide)) (fun _ hk => hk.2) (.int .u8 2)) (fun _ hk => hk.2) (.slice Ao8 y101.length co8)) (fun _ hk => hk.2) (.slice Ao7 y104.length co7)) (fun _ hk => hk.2) (.int .i64 300)) (fun _ h_ => h_.1))) hb); have n2_ := Aside0.mk (Kd.R_lower ho0 (below_size (bl1 HB GE107))); have n3_ := Aside0.mk (blk_below (g := gb107) (o := .cells #[.int .u8 2, .slice Ao8 y101.length co8, .slice Ao7 y104.length co7, .int .i64 300] 25 (0, 0)) (by (with_reducible repeat (first | refine blk_drewN ?_ _ | refine blk_drew ?_ | refine blk_alloc ?_ _)); refine blk_put (cs := #[.int .u8 2, .slice Ao8 y101.length co8, .slice Ao7 y104.length co7, .int .i64 0]) ?_ 3 _ rfl; (with_reducible repeat (first | refine blk_drewN ?_ _ | refine blk_drew ?_ | refine blk_alloc ?_ _)); refine blk_put (cs := #[.int .u8 2, .slice Ao8 y101.length co8, .slice none 0 0, .int .i64 0]) ?_ 2 _ rfl; (with_reducible repeat (first | refine blk_drewN ?_ _ | refine blk_drew ?_ | refine blk_alloc ?_ _)); refine blk_put (cs := #[.int .u8 2, .slice none 0 0, .slice none 0 0, .int .i64 0]) ?_ 1 _ rfl; (with_reducible repeat (first | refine blk_drewN ?_ _ | refine blk_drew ?_ | refine blk_alloc ?_ _)); refine blk_put (cs := #[.int .u8 0, .slice none 0 0, .slice none 0 0, .int .i64 0]) ?_ 0 _ rfl; (with_reducible repeat (first | refine blk_drewN ?_ _ | refine blk_drew ?_ | refine blk_alloc ?_ _)); exact BK107.out) hb); have n4_ := Aside0.mk (below_step (bl1 HB GE107) hb); clear HO103; clear HO106; clear BK107; clear HB; have HO103 := n0_; have HO106 := n1_; have HO110 := n2_; have BK107 := n3_; have HB := n4_; clear n0_ n1_ n2_ n3_ n4_; (try clear hb); (try clear hb2); (try clear hk); (try clear hi); (try clear ho0)))
 (try simp only [Act.put, List.setIfInBounds_toArray, List.set_cons_zero, List.set_cons_succ])
 go_cut [4] (fun v4 wc => ∃ (kq : Nat) (x4_1 : Bool), v4 = .bool x4_1 ∧ Aside0 (vouchlaw21_CodeKnown.j0 kq x4_1 = some r) ∧ Aside0 (kq ≤ k) ∧ Aside0 (Kd.R Kd.string 9 wc w.heap.size (fun _ => True) (.slice Ao8 y101.length co8) y101) ∧ Aside0 (Kd.R k41 41 wc w.heap.size (fun _ => True) (.slice Ao7 y104.length co7) y104) ∧ Aside0 (wc.heap[gb107]? = some (.cells #[.int .u8 2, (.slice Ao8 y101.length co8), (.slice Ao7 y104.length co7), .int .i64 300] 25 (0, 0))) ∧ Aside0 (Below w.heap.size w wc))
 case first =>
  have H := HC2.out
  clear HC2
  by_cases c12 : t111 = 0
  ·rw [if_pos c12] at H
   have c12b0 : (t111 == 0) = true := beq_iff_eq.mpr c12
   have c12b1 : (t111 != 0) = false := bne_eq_false_iff_eq.mpr c12
   clear c12
   (first | rw [c12b0] | (simp only [i64_w, i32_w]; rw [c12b0]) | skip)
   have H' := Aside0.mk H
   clear H
   have hcv13 := own_string (P := Try.prog) Try.underlying27 Try.underlying5 Try.underlying9 (Kd.own_of_R HO110.out)
   go_wp2
   go_meet
   case rel => exact ⟨_, (((strOfNums t108).toList == ([86, 80, 2, 172, 2, 1, 1, 97, 3, 34, 0, 37, 1, 1, 38] : List UInt8))), (by first | rfl | (simp; done) | (simp [*]; done)), H', ⟨by first | omega | exact Nat.le_refl _⟩, ⟨by (with_reducible repeat (first | apply Kd.R_alloc | apply Kd.R_drewN | apply Kd.R_drew)); exact HO103.out⟩, ⟨by (with_reducible repeat (first | apply Kd.R_alloc | apply Kd.R_drewN | apply Kd.R_drew)); exact HO106.out⟩, ⟨by (with_reducible repeat (first | refine blk_drewN ?_ _ | refine blk_drew ?_ | refine blk_alloc ?_ _)); exact BK107.out⟩, ⟨by repeat (first | (with_reducible first | exact HB.out | apply below_alloc | apply pw_below_drewN | apply below_drew1 | refine below_set ?_ GE107.out) | exact HB.out)⟩⟩
  ·rw [if_neg c12] at H
   have c12b0 : (t111 == 0) = false := beq_eq_false_iff_ne.mpr c12
   have c12b1 : (t111 != 0) = true := bne_iff_ne.mpr c12
   (first | rw [c12b0] | (simp only [i64_w, i32_w]; rw [c12b0]) | skip)
   exact absurd (vouchlaw21_CodeKnown.dead_j0 H (by first | rfl | simp)) (by rw [hr_]; decide)
 case rest =>
  clear HC2
  try clear c1
  try clear hcv1
  try clear p2
  try clear c3
  try clear c9
  try clear c11
  try clear c12
  try clear c12b0
  try clear c12b1
  try clear hcv13
  try clear hcz10_0
  try clear hcz10_1
  try clear hcz10_2
  try clear hcz10_3
  try clear hfz10_0
  try clear hfz10_1
  try clear hfz10_2
  try clear hfz10_3
  obtain ⟨kq, x4_1, rfl, HA, HJ1, HO_108001, HO_108002, BK107, HB⟩ := hcut
  cases kq with
  | zero => exact absurd HA.out (by simp [vouchlaw21_CodeKnown.j0])
  | succ kj1 =>
   have H := HA.out
   clear HA
   simp only [vouchlaw21_CodeKnown.j0] at H
   have HC14 := Aside0.mk H
   clear H
   go_upto_region 4 with (fail)
   go_cut [5] (fun v5 wc => ∃ (kq : Nat) (x5_13 : Bool), v5 = .bool x5_13 ∧ Aside0 (vouchlaw21_CodeKnown.j1 kq x4_1 x5_13 = some r) ∧ Aside0 (kq ≤ kj1) ∧ Aside0 (Kd.R Kd.string 9 wc w.heap.size (fun _ => True) (.slice Ao8 y101.length co8) y101) ∧ Aside0 (Kd.R k41 41 wc w.heap.size (fun _ => True) (.slice Ao7 y104.length co7) y104) ∧ Aside0 (wc.heap[gb107]? = some (.cells #[.int .u8 2, (.slice Ao8 y101.length co8), (.slice Ao7 y104.length co7), .int .i64 300] 25 (0, 0))) ∧ Aside0 (Below w.heap.size w wc))
   case first =>
    have H := HC14.out
    clear HC14
    replace H := Option.bind_eq_some_iff.mp H
    obtain ⟨t112, A150, H⟩ := H
    replace H : (if t112 = true then ((vouchlaw21_wrong.f kj1 (⟨#[86, 80, 3]⟩ : ByteArray) 210 2).bind fun t113 => (if t113 = true then ((vouchlaw21_wrong.f kj1 (⟨#[86, 80, 1, 0, 0, 1, 39]⟩ : ByteArray) 210 6).bind fun t114 => (if t114 = true then ((vouchlaw21_wrong.f kj1 (⟨#[86, 80, 1, 0, 0]⟩ : ByteArray) 210 5).bind fun t115 => (if t115 = true then ((vouchlaw21_wrong.f kj1 (⟨#[]⟩ : ByteArray) 210 0).bind fun t116 => (if t116 = true then ((vouchlaw21_wrong.f kj1 (⟨#[86, 80, 1, 0, 0, 0, 7]⟩ : ByteArray) 210 6).bind fun t117 => (if t117 = true then ((vouchlaw21_wrong.f kj1 (⟨#[87]⟩ : ByteArray) 210 0).bind fun t118 => (if t118 = true then ((vouchlaw21_wrong.f kj1 (⟨#[86, 81]⟩ : ByteArray) 210 1).bind fun t119 => (vouchlaw21_CodeKnown.j1 kj1 x4_1 t119)) else (vouchlaw21_CodeKnown.j1 kj1 x4_1 false))) else (vouchlaw21_CodeKnown.j1 kj1 x4_1 false))) else (vouchlaw21_CodeKnown.j1 kj1 x4_1 false))) else (vouchlaw21_CodeKnown.j1 kj1 x4_1 false))) else (vouchlaw21_CodeKnown.j1 kj1 x4_1 false))) else (vouchlaw21_CodeKnown.j1 kj1 x4_1 false))) else (vouchlaw21_CodeKnown.j1 kj1 x4_1 false)) = some r := H
    have A15 := Aside0.mk A150
    clear A150
    by_cases c16 : t112 = true
    ·subst c16
     have H1 : ((vouchlaw21_wrong.f kj1 (⟨#[86, 80, 3]⟩ : ByteArray) 210 2).bind fun t113 => (if t113 = true then ((vouchlaw21_wrong.f kj1 (⟨#[86, 80, 1, 0, 0, 1, 39]⟩ : ByteArray) 210 6).bind fun t114 => (if t114 = true then ((vouchlaw21_wrong.f kj1 (⟨#[86, 80, 1, 0, 0]⟩ : ByteArray) 210 5).bind fun t115 => (if t115 = true then ((vouchlaw21_wrong.f kj1 (⟨#[]⟩ : ByteArray) 210 0).bind fun t116 => (if t116 = true then ((vouchlaw21_wrong.f kj1 (⟨#[86, 80, 1, 0, 0, 0, 7]⟩ : ByteArray) 210 6).bind fun t117 => (if t117 = true then ((vouchlaw21_wrong.f kj1 (⟨#[87]⟩ : ByteArray) 210 0).bind fun t118 => (if t118 = true then ((vouchlaw21_wrong.f kj1 (⟨#[86, 81]⟩ : ByteArray) 210 1).bind fun t119 => (vouchlaw21_CodeKnown.j1 kj1 x4_1 t119)) else (vouchlaw21_CodeKnown.j1 kj1 x4_1 false))) else (vouchlaw21_CodeKnown.j1 kj1 x4_1 false))) else (vouchlaw21_CodeKnown.j1 kj1 x4_1 false))) else (vouchlaw21_CodeKnown.j1 kj1 x4_1 false))) else (vouchlaw21_CodeKnown.j1 kj1 x4_1 false))) else (vouchlaw21_CodeKnown.j1 kj1 x4_1 false))) = some r := by rw [if_pos rfl] at H; exact H
     clear H
     have H := H1
     clear H1
     replace H := Option.bind_eq_some_iff.mp H
     obtain ⟨t113, A170, H⟩ := H
     replace H : (if t113 = true then ((vouchlaw21_wrong.f kj1 (⟨#[86, 80, 1, 0, 0, 1, 39]⟩ : ByteArray) 210 6).bind fun t114 => (if t114 = true then ((vouchlaw21_wrong.f kj1 (⟨#[86, 80, 1, 0, 0]⟩ : ByteArray) 210 5).bind fun t115 => (if t115 = true then ((vouchlaw21_wrong.f kj1 (⟨#[]⟩ : ByteArray) 210 0).bind fun t116 => (if t116 = true then ((vouchlaw21_wrong.f kj1 (⟨#[86, 80, 1, 0, 0, 0, 7]⟩ : ByteArray) 210 6).bind fun t117 => (if t117 = true then ((vouchlaw21_wrong.f kj1 (⟨#[87]⟩ : ByteArray) 210 0).bind fun t118 => (if t118 = true then ((vouchlaw21_wrong.f kj1 (⟨#[86, 81]⟩ : ByteArray) 210 1).bind fun t119 => (vouchlaw21_CodeKnown.j1 kj1 x4_1 t119)) else (vouchlaw21_CodeKnown.j1 kj1 x4_1 false))) else (vouchlaw21_CodeKnown.j1 kj1 x4_1 false))) else (vouchlaw21_CodeKnown.j1 kj1 x4_1 false))) else (vouchlaw21_CodeKnown.j1 kj1 x4_1 false))) else (vouchlaw21_CodeKnown.j1 kj1 x4_1 false))) else (vouchlaw21_CodeKnown.j1 kj1 x4_1 false)) = some r := H
     have A17 := Aside0.mk A170
     clear A170
     by_cases c18 : t113 = true
     ·subst c18
      have H1 : ((vouchlaw21_wrong.f kj1 (⟨#[86, 80, 1, 0, 0, 1, 39]⟩ : ByteArray) 210 6).bind fun t114 => (if t114 = true then ((vouchlaw21_wrong.f kj1 (⟨#[86, 80, 1, 0, 0]⟩ : ByteArray) 210 5).bind fun t115 => (if t115 = true then ((vouchlaw21_wrong.f kj1 (⟨#[]⟩ : ByteArray) 210 0).bind fun t116 => (if t116 = true then ((vouchlaw21_wrong.f kj1 (⟨#[86, 80, 1, 0, 0, 0, 7]⟩ : ByteArray) 210 6).bind fun t117 => (if t117 = true then ((vouchlaw21_wrong.f kj1 (⟨#[87]⟩ : ByteArray) 210 0).bind fun t118 => (if t118 = true then ((vouchlaw21_wrong.f kj1 (⟨#[86, 81]⟩ : ByteArray) 210 1).bind fun t119 => (vouchlaw21_CodeKnown.j1 kj1 x4_1 t119)) else (vouchlaw21_CodeKnown.j1 kj1 x4_1 false))) else (vouchlaw21_CodeKnown.j1 kj1 x4_1 false))) else (vouchlaw21_CodeKnown.j1 kj1 x4_1 false))) else (vouchlaw21_CodeKnown.j1 kj1 x4_1 false))) else (vouchlaw21_CodeKnown.j1 kj1 x4_1 false))) = some r := by rw [if_pos rfl] at H; exact H
      clear H
      have H := H1
      clear H1
      replace H := Option.bind_eq_some_iff.mp H
      obtain ⟨t114, A190, H⟩ := H
      replace H : (if t114 = true then ((vouchlaw21_wrong.f kj1 (⟨#[86, 80, 1, 0, 0]⟩ : ByteArray) 210 5).bind fun t115 => (if t115 = true then ((vouchlaw21_wrong.f kj1 (⟨#[]⟩ : ByteArray) 210 0).bind fun t116 => (if t116 = true then ((vouchlaw21_wrong.f kj1 (⟨#[86, 80, 1, 0, 0, 0, 7]⟩ : ByteArray) 210 6).bind fun t117 => (if t117 = true then ((vouchlaw21_wrong.f kj1 (⟨#[87]⟩ : ByteArray) 210 0).bind fun t118 => (if t118 = true then ((vouchlaw21_wrong.f kj1 (⟨#[86, 81]⟩ : ByteArray) 210 1).bind fun t119 => (vouchlaw21_CodeKnown.j1 kj1 x4_1 t119)) else (vouchlaw21_CodeKnown.j1 kj1 x4_1 false))) else (vouchlaw21_CodeKnown.j1 kj1 x4_1 false))) else (vouchlaw21_CodeKnown.j1 kj1 x4_1 false))) else (vouchlaw21_CodeKnown.j1 kj1 x4_1 false))) else (vouchlaw21_CodeKnown.j1 kj1 x4_1 false)) = some r := H
      have A19 := Aside0.mk A190
      clear A190
      by_cases c20 : t114 = true
      ·subst c20
       have H1 : ((vouchlaw21_wrong.f kj1 (⟨#[86, 80, 1, 0, 0]⟩ : ByteArray) 210 5).bind fun t115 => (if t115 = true then ((vouchlaw21_wrong.f kj1 (⟨#[]⟩ : ByteArray) 210 0).bind fun t116 => (if t116 = true then ((vouchlaw21_wrong.f kj1 (⟨#[86, 80, 1, 0, 0, 0, 7]⟩ : ByteArray) 210 6).bind fun t117 => (if t117 = true then ((vouchlaw21_wrong.f kj1 (⟨#[87]⟩ : ByteArray) 210 0).bind fun t118 => (if t118 = true then ((vouchlaw21_wrong.f kj1 (⟨#[86, 81]⟩ : ByteArray) 210 1).bind fun t119 => (vouchlaw21_CodeKnown.j1 kj1 x4_1 t119)) else (vouchlaw21_CodeKnown.j1 kj1 x4_1 false))) else (vouchlaw21_CodeKnown.j1 kj1 x4_1 false))) else (vouchlaw21_CodeKnown.j1 kj1 x4_1 false))) else (vouchlaw21_CodeKnown.j1 kj1 x4_1 false))) = some r := by rw [if_pos rfl] at H; exact H
       clear H
       have H := H1
       clear H1
       replace H := Option.bind_eq_some_iff.mp H
       obtain ⟨t115, A210, H⟩ := H
       replace H : (if t115 = true then ((vouchlaw21_wrong.f kj1 (⟨#[]⟩ : ByteArray) 210 0).bind fun t116 => (if t116 = true then ((vouchlaw21_wrong.f kj1 (⟨#[86, 80, 1, 0, 0, 0, 7]⟩ : ByteArray) 210 6).bind fun t117 => (if t117 = true then ((vouchlaw21_wrong.f kj1 (⟨#[87]⟩ : ByteArray) 210 0).bind fun t118 => (if t118 = true then ((vouchlaw21_wrong.f kj1 (⟨#[86, 81]⟩ : ByteArray) 210 1).bind fun t119 => (vouchlaw21_CodeKnown.j1 kj1 x4_1 t119)) else (vouchlaw21_CodeKnown.j1 kj1 x4_1 false))) else (vouchlaw21_CodeKnown.j1 kj1 x4_1 false))) else (vouchlaw21_CodeKnown.j1 kj1 x4_1 false))) else (vouchlaw21_CodeKnown.j1 kj1 x4_1 false)) = some r := H
       have A21 := Aside0.mk A210
       clear A210
       by_cases c22 : t115 = true
       ·subst c22
        have H1 : ((vouchlaw21_wrong.f kj1 (⟨#[]⟩ : ByteArray) 210 0).bind fun t116 => (if t116 = true then ((vouchlaw21_wrong.f kj1 (⟨#[86, 80, 1, 0, 0, 0, 7]⟩ : ByteArray) 210 6).bind fun t117 => (if t117 = true then ((vouchlaw21_wrong.f kj1 (⟨#[87]⟩ : ByteArray) 210 0).bind fun t118 => (if t118 = true then ((vouchlaw21_wrong.f kj1 (⟨#[86, 81]⟩ : ByteArray) 210 1).bind fun t119 => (vouchlaw21_CodeKnown.j1 kj1 x4_1 t119)) else (vouchlaw21_CodeKnown.j1 kj1 x4_1 false))) else (vouchlaw21_CodeKnown.j1 kj1 x4_1 false))) else (vouchlaw21_CodeKnown.j1 kj1 x4_1 false))) = some r := by rw [if_pos rfl] at H; exact H
        clear H
        have H := H1
        clear H1
        replace H := Option.bind_eq_some_iff.mp H
        obtain ⟨t116, A230, H⟩ := H
        replace H : (if t116 = true then ((vouchlaw21_wrong.f kj1 (⟨#[86, 80, 1, 0, 0, 0, 7]⟩ : ByteArray) 210 6).bind fun t117 => (if t117 = true then ((vouchlaw21_wrong.f kj1 (⟨#[87]⟩ : ByteArray) 210 0).bind fun t118 => (if t118 = true then ((vouchlaw21_wrong.f kj1 (⟨#[86, 81]⟩ : ByteArray) 210 1).bind fun t119 => (vouchlaw21_CodeKnown.j1 kj1 x4_1 t119)) else (vouchlaw21_CodeKnown.j1 kj1 x4_1 false))) else (vouchlaw21_CodeKnown.j1 kj1 x4_1 false))) else (vouchlaw21_CodeKnown.j1 kj1 x4_1 false)) = some r := H
        have A23 := Aside0.mk A230
        clear A230
        by_cases c24 : t116 = true
        ·subst c24
         have H1 : ((vouchlaw21_wrong.f kj1 (⟨#[86, 80, 1, 0, 0, 0, 7]⟩ : ByteArray) 210 6).bind fun t117 => (if t117 = true then ((vouchlaw21_wrong.f kj1 (⟨#[87]⟩ : ByteArray) 210 0).bind fun t118 => (if t118 = true then ((vouchlaw21_wrong.f kj1 (⟨#[86, 81]⟩ : ByteArray) 210 1).bind fun t119 => (vouchlaw21_CodeKnown.j1 kj1 x4_1 t119)) else (vouchlaw21_CodeKnown.j1 kj1 x4_1 false))) else (vouchlaw21_CodeKnown.j1 kj1 x4_1 false))) = some r := by rw [if_pos rfl] at H; exact H
         clear H
         have H := H1
         clear H1
         replace H := Option.bind_eq_some_iff.mp H
         obtain ⟨t117, A250, H⟩ := H
         replace H : (if t117 = true then ((vouchlaw21_wrong.f kj1 (⟨#[87]⟩ : ByteArray) 210 0).bind fun t118 => (if t118 = true then ((vouchlaw21_wrong.f kj1 (⟨#[86, 81]⟩ : ByteArray) 210 1).bind fun t119 => (vouchlaw21_CodeKnown.j1 kj1 x4_1 t119)) else (vouchlaw21_CodeKnown.j1 kj1 x4_1 false))) else (vouchlaw21_CodeKnown.j1 kj1 x4_1 false)) = some r := H
         have A25 := Aside0.mk A250
         clear A250
         by_cases c26 : t117 = true
         ·subst c26
          have H1 : ((vouchlaw21_wrong.f kj1 (⟨#[87]⟩ : ByteArray) 210 0).bind fun t118 => (if t118 = true then ((vouchlaw21_wrong.f kj1 (⟨#[86, 81]⟩ : ByteArray) 210 1).bind fun t119 => (vouchlaw21_CodeKnown.j1 kj1 x4_1 t119)) else (vouchlaw21_CodeKnown.j1 kj1 x4_1 false))) = some r := by rw [if_pos rfl] at H; exact H
          clear H
          have H := H1
          clear H1
          replace H := Option.bind_eq_some_iff.mp H
          obtain ⟨t118, A270, H⟩ := H
          replace H : (if t118 = true then ((vouchlaw21_wrong.f kj1 (⟨#[86, 81]⟩ : ByteArray) 210 1).bind fun t119 => (vouchlaw21_CodeKnown.j1 kj1 x4_1 t119)) else (vouchlaw21_CodeKnown.j1 kj1 x4_1 false)) = some r := H
          have A27 := Aside0.mk A270
          clear A270
          by_cases c28 : t118 = true
          ·subst c28
           have H1 : ((vouchlaw21_wrong.f kj1 (⟨#[86, 81]⟩ : ByteArray) 210 1).bind fun t119 => (vouchlaw21_CodeKnown.j1 kj1 x4_1 t119)) = some r := by rw [if_pos rfl] at H; exact H
           clear H
           have H := H1
           clear H1
           replace H := Option.bind_eq_some_iff.mp H
           obtain ⟨t119, A290, H⟩ := H
           replace H : (vouchlaw21_CodeKnown.j1 kj1 x4_1 t119) = some r := H
           have A29 := Aside0.mk A290
           clear A290
           have H' := Aside0.mk H
           clear H
           go_wp2_with (first | ((with_reducible refine gate_callee (f := 22) rfl ?_); refine goesL_ (some 34) rfl rfl Try.func22 (by kernel_rfl) rfl #[.string (⟨#[86, 80, 1, 128, 0, 0, 0]⟩ : ByteArray), .int .i64 210, .int .i64 3] rfl (by (try simp only [List.map_toArray, List.map_cons, List.map_nil]); first | done | rfl | (simp only [List.length_drop, List.length_take]; rfl)) ?_; (with_reducible refine (vouchlaw21_wrong.calls kj1 (⟨#[86, 80, 1, 128, 0, 0, 0]⟩ : ByteArray) 210 3 true _ A15.out).mono ?_); rintro e w30 ⟨rfl, hb⟩; refine ⟨_, rfl, ?_⟩; have n0_ := Aside0.mk (Kd.R_below (kr HO_108001) hb); have n1_ := Aside0.mk (Kd.R_below (kr HO_108002) hb); have n2_ := Aside0.mk (blk_below (g := gb107) (o := .cells #[.int .u8 2, .slice Ao8 y101.length co8, .slice Ao7 y104.length co7, .int .i64 300] 25 (0, 0)) (bk BK107) hb); have n3_ := Aside0.mk (below_step (bl1 HB GE107) hb); clear HO_108001; clear HO_108002; clear BK107; clear HB; have HO_108001 := n0_; have HO_108002 := n1_; have BK107 := n2_; have HB := n3_; clear n0_ n1_ n2_ n3_; (try clear hb); (try clear hb2); (try clear hk); (try clear hi)) | (go_at_call 22; (with_reducible refine (vouchlaw21_wrong.calls kj1 (⟨#[86, 80, 3]⟩ : ByteArray) 210 2 true _ A17.out).mono ?_); rintro e w31 ⟨rfl, hb⟩; have n0_ := Aside0.mk (Kd.R_below (kr HO_108001) hb); have n1_ := Aside0.mk (Kd.R_below (kr HO_108002) hb); have n2_ := Aside0.mk (blk_below (g := gb107) (o := .cells #[.int .u8 2, .slice Ao8 y101.length co8, .slice Ao7 y104.length co7, .int .i64 300] 25 (0, 0)) (bk BK107) hb); have n3_ := Aside0.mk (below_step (bl1 HB GE107) hb); clear HO_108001; clear HO_108002; clear BK107; clear HB; have HO_108001 := n0_; have HO_108002 := n1_; have BK107 := n2_; have HB := n3_; clear n0_ n1_ n2_ n3_; (try clear hb); (try clear hb2); (try clear hk); (try clear hi)) | (go_at_call 22; (with_reducible refine (vouchlaw21_wrong.calls kj1 (⟨#[86, 80, 1, 0, 0, 1, 39]⟩ : ByteArray) 210 6 true _ A19.out).mono ?_); rintro e w32 ⟨rfl, hb⟩; have n0_ := Aside0.mk (Kd.R_below (kr HO_108001) hb); have n1_ := Aside0.mk (Kd.R_below (kr HO_108002) hb); have n2_ := Aside0.mk (blk_below (g := gb107) (o := .cells #[.int .u8 2, .slice Ao8 y101.length co8, .slice Ao7 y104.length co7, .int .i64 300] 25 (0, 0)) (bk BK107) hb); have n3_ := Aside0.mk (below_step (bl1 HB GE107) hb); clear HO_108001; clear HO_108002; clear BK107; clear HB; have HO_108001 := n0_; have HO_108002 := n1_; have BK107 := n2_; have HB := n3_; clear n0_ n1_ n2_ n3_; (try clear hb); (try clear hb2); (try clear hk); (try clear hi)) | (go_at_call 22; (with_reducible refine (vouchlaw21_wrong.calls kj1 (⟨#[86, 80, 1, 0, 0]⟩ : ByteArray) 210 5 true _ A21.out).mono ?_); rintro e w33 ⟨rfl, hb⟩; have n0_ := Aside0.mk (Kd.R_below (kr HO_108001) hb); have n1_ := Aside0.mk (Kd.R_below (kr HO_108002) hb); have n2_ := Aside0.mk (blk_below (g := gb107) (o := .cells #[.int .u8 2, .slice Ao8 y101.length co8, .slice Ao7 y104.length co7, .int .i64 300] 25 (0, 0)) (bk BK107) hb); have n3_ := Aside0.mk (below_step (bl1 HB GE107) hb); clear HO_108001; clear HO_108002; clear BK107; clear HB; have HO_108001 := n0_; have HO_108002 := n1_; have BK107 := n2_; have HB := n3_; clear n0_ n1_ n2_ n3_; (try clear hb); (try clear hb2); (try clear hk); (try clear hi)) | (go_at_call 22; (with_reducible refine (vouchlaw21_wrong.calls kj1 (⟨#[]⟩ : ByteArray) 210 0 true _ A23.out).mono ?_); rintro e w34 ⟨rfl, hb⟩; have n0_ := Aside0.mk (Kd.R_below (kr HO_108001) hb); have n1_ := Aside0.mk (Kd.R_below (kr HO_108002) hb); have n2_ := Aside0.mk (blk_below (g := gb107) (o := .cells #[.int .u8 2, .slice Ao8 y101.length co8, .slice Ao7 y104.length co7, .int .i64 300] 25 (0, 0)) (bk BK107) hb); have n3_ := Aside0.mk (below_step (bl1 HB GE107) hb); clear HO_108001; clear HO_108002; clear BK107; clear HB; have HO_108001 := n0_; have HO_108002 := n1_; have BK107 := n2_; have HB := n3_; clear n0_ n1_ n2_ n3_; (try clear hb); (try clear hb2); (try clear hk); (try clear hi)) | (go_at_call 22; (with_reducible refine (vouchlaw21_wrong.calls kj1 (⟨#[86, 80, 1, 0, 0, 0, 7]⟩ : ByteArray) 210 6 true _ A25.out).mono ?_); rintro e w35 ⟨rfl, hb⟩; have n0_ := Aside0.mk (Kd.R_below (kr HO_108001) hb); have n1_ := Aside0.mk (Kd.R_below (kr HO_108002) hb); have n2_ := Aside0.mk (blk_below (g := gb107) (o := .cells #[.int .u8 2, .slice Ao8 y101.length co8, .slice Ao7 y104.length co7, .int .i64 300] 25 (0, 0)) (bk BK107) hb); have n3_ := Aside0.mk (below_step (bl1 HB GE107) hb); clear HO_108001; clear HO_108002; clear BK107; clear HB; have HO_108001 := n0_; have HO_108002 := n1_; have BK107 := n2_; have HB := n3_; clear n0_ n1_ n2_ n3_; (try clear hb); (try clear hb2); (try clear hk); (try clear hi)) | (go_at_call 22; (with_reducible refine (vouchlaw21_wrong.calls kj1 (⟨#[87]⟩ : ByteArray) 210 0 true _ A27.out).mono ?_); rintro e w36 ⟨rfl, hb⟩; have n0_ := Aside0.mk (Kd.R_below (kr HO_108001) hb); have n1_ := Aside0.mk (Kd.R_below (kr HO_108002) hb); have n2_ := Aside0.mk (blk_below (g := gb107) (o := .cells #[.int .u8 2, .slice Ao8 y101.length co8, .slice Ao7 y104.length co7, .int .i64 300] 25 (0, 0)) (bk BK107) hb); have n3_ := Aside0.mk (below_step (bl1 HB GE107) hb); clear HO_108001; clear HO_108002; clear BK107; clear HB; have HO_108001 := n0_; have HO_108002 := n1_; have BK107 := n2_; have HB := n3_; clear n0_ n1_ n2_ n3_; (try clear hb); (try clear hb2); (try clear hk); (try clear hi)) | (go_at_call 22; (with_reducible refine (vouchlaw21_wrong.calls kj1 (⟨#[86, 81]⟩ : ByteArray) 210 1 t119 _ A29.out).mono ?_); rintro e w37 ⟨rfl, hb⟩; have n0_ := Aside0.mk (Kd.R_below (kr HO_108001) hb); have n1_ := Aside0.mk (Kd.R_below (kr HO_108002) hb); have n2_ := Aside0.mk (blk_below (g := gb107) (o := .cells #[.int .u8 2, .slice Ao8 y101.length co8, .slice Ao7 y104.length co7, .int .i64 300] 25 (0, 0)) (bk BK107) hb); have n3_ := Aside0.mk (below_step (bl1 HB GE107) hb); clear HO_108001; clear HO_108002; clear BK107; clear HB; have HO_108001 := n0_; have HO_108002 := n1_; have BK107 := n2_; have HB := n3_; clear n0_ n1_ n2_ n3_; (try clear hb); (try clear hb2); (try clear hk); (try clear hi)))
           go_meet
           case rel => exact ⟨_, (t119), (by first | rfl | (simp; done) | (simp [*]; done)), H', ⟨by have := HJ1.out; first | omega | exact Nat.le_refl _⟩, ⟨by (with_reducible repeat (first | apply Kd.R_alloc | apply Kd.R_drewN | apply Kd.R_drew)); exact HO_108001.out⟩, ⟨by (with_reducible repeat (first | apply Kd.R_alloc | apply Kd.R_drewN | apply Kd.R_drew)); exact HO_108002.out⟩, ⟨by (with_reducible repeat (first | refine blk_drewN ?_ _ | refine blk_drew ?_ | refine blk_alloc ?_ _)); exact BK107.out⟩, ⟨by repeat (first | (with_reducible first | exact HB.out | apply below_alloc | apply pw_below_drewN | apply below_drew1 | refine below_set ?_ GE107.out) | exact HB.out)⟩⟩
          ·replace c28 := Bool.eq_false_iff.mpr c28
           subst c28
           have H1 : (vouchlaw21_CodeKnown.j1 kj1 x4_1 false) = some r := by rw [if_neg (show ¬ (false = true) by decide)] at H; exact H
           clear H
           have H := H1
           clear H1
           exact absurd (vouchlaw21_CodeKnown.dead_j1 H (by first | rfl | simp)) (by rw [hr_]; decide)
         ·replace c26 := Bool.eq_false_iff.mpr c26
          subst c26
          have H1 : (vouchlaw21_CodeKnown.j1 kj1 x4_1 false) = some r := by rw [if_neg (show ¬ (false = true) by decide)] at H; exact H
          clear H
          have H := H1
          clear H1
          exact absurd (vouchlaw21_CodeKnown.dead_j1 H (by first | rfl | simp)) (by rw [hr_]; decide)
        ·replace c24 := Bool.eq_false_iff.mpr c24
         subst c24
         have H1 : (vouchlaw21_CodeKnown.j1 kj1 x4_1 false) = some r := by rw [if_neg (show ¬ (false = true) by decide)] at H; exact H
         clear H
         have H := H1
         clear H1
         exact absurd (vouchlaw21_CodeKnown.dead_j1 H (by first | rfl | simp)) (by rw [hr_]; decide)
       ·replace c22 := Bool.eq_false_iff.mpr c22
        subst c22
        have H1 : (vouchlaw21_CodeKnown.j1 kj1 x4_1 false) = some r := by rw [if_neg (show ¬ (false = true) by decide)] at H; exact H
        clear H
        have H := H1
        clear H1
        exact absurd (vouchlaw21_CodeKnown.dead_j1 H (by first | rfl | simp)) (by rw [hr_]; decide)
      ·replace c20 := Bool.eq_false_iff.mpr c20
       subst c20
       have H1 : (vouchlaw21_CodeKnown.j1 kj1 x4_1 false) = some r := by rw [if_neg (show ¬ (false = true) by decide)] at H; exact H
       clear H
       have H := H1
       clear H1
       exact absurd (vouchlaw21_CodeKnown.dead_j1 H (by first | rfl | simp)) (by rw [hr_]; decide)
     ·replace c18 := Bool.eq_false_iff.mpr c18
      subst c18
      have H1 : (vouchlaw21_CodeKnown.j1 kj1 x4_1 false) = some r := by rw [if_neg (show ¬ (false = true) by decide)] at H; exact H
      clear H
      have H := H1
      clear H1
      exact absurd (vouchlaw21_CodeKnown.dead_j1 H (by first | rfl | simp)) (by rw [hr_]; decide)
    ·replace c16 := Bool.eq_false_iff.mpr c16
     subst c16
     have H1 : (vouchlaw21_CodeKnown.j1 kj1 x4_1 false) = some r := by rw [if_neg (show ¬ (false = true) by decide)] at H; exact H
     clear H
     have H := H1
     clear H1
     exact absurd (vouchlaw21_CodeKnown.dead_j1 H (by first | rfl | simp)) (by rw [hr_]; decide)
   case rest =>
    clear HC14
    try clear c1
    try clear hcv1
    try clear c2
    try clear p2
    try clear c3
    try clear c9
    try clear c11
    try clear c12
    try clear c12b0
    try clear c12b1
    try clear hcv13
    try clear c16
    try clear c18
    try clear c20
    try clear c22
    try clear c24
    try clear c26
    try clear c28
    try clear hcz10_0
    try clear hcz10_1
    try clear hcz10_2
    try clear hcz10_3
    try clear hfz10_0
    try clear hfz10_1
    try clear hfz10_2
    try clear hfz10_3
    try clear p2
    obtain ⟨kq, x5_13, rfl, HA, HJ13, HO_108001, HO_108002, BK107, HB⟩ := hcut
    cases kq with
    | zero => exact absurd HA.out (by simp [vouchlaw21_CodeKnown.j1])
    | succ kj13 =>
     have H := HA.out
     clear HA
     simp only [vouchlaw21_CodeKnown.j1] at H
     have HC38 := Aside0.mk H
     clear H
     go_upto_region 5 with (fail)
     go_cut [6] (fun v6 wc => ∃ (kq : Nat) (x6_37 : Bool), v6 = .bool x6_37 ∧ Aside0 (vouchlaw21_CodeKnown.j2 kq x4_1 x5_13 x6_37 = some r) ∧ Aside0 (kq ≤ kj13) ∧ Aside0 (Kd.R Kd.string 9 wc w.heap.size (fun _ => True) (.slice Ao8 y101.length co8) y101) ∧ Aside0 (Kd.R k41 41 wc w.heap.size (fun _ => True) (.slice Ao7 y104.length co7) y104) ∧ Aside0 (wc.heap[gb107]? = some (.cells #[.int .u8 2, (.slice Ao8 y101.length co8), (.slice Ao7 y104.length co7), .int .i64 300] 25 (0, 0))) ∧ Aside0 (Below w.heap.size w wc))
     case first =>
      have H := HC38.out
      clear HC38
      replace H := Option.bind_eq_some_iff.mp H
      obtain ⟨t120, A390, H⟩ := H
      replace H : (if t120 = true then ((vouchlaw21_wrong.f kj13 (⟨#[86, 80, 1, 255, 255, 255, 255, 255]⟩ : ByteArray) 210 3).bind fun t121 => (if t121 = true then ((vouchlaw21_wrong.f kj13 (⟨#[86, 80, 1, 255, 255, 255, 255]⟩ : ByteArray) 210 7).bind fun t122 => (if t122 = true then ((vouchlaw21_wrong.f kj13 (⟨#[86, 80, 1, 0, 129, 64]⟩ : ByteArray) 3 4).bind fun t123 => (if t123 = true then ((vouchlaw21_wrong.f kj13 (⟨#[86, 80, 1, 0, 0, 129, 128, 2]⟩ : ByteArray) 3 5).bind fun t124 => (if t124 = true then ((vouchlaw21_wrong.f kj13 (⟨#[86, 80, 1, 0, 1, 5, 97, 98]⟩ : ByteArray) 210 8).bind fun t125 => (if t125 = true then ((vouchlaw21_wrong.f kj13 (⟨#[86, 80, 1, 0, 0, 1, 0]⟩ : ByteArray) 210 6).bind fun t126 => (vouchlaw21_CodeKnown.j2 kj13 x4_1 x5_13 t126)) else (vouchlaw21_CodeKnown.j2 kj13 x4_1 x5_13 false))) else (vouchlaw21_CodeKnown.j2 kj13 x4_1 x5_13 false))) else (vouchlaw21_CodeKnown.j2 kj13 x4_1 x5_13 false))) else (vouchlaw21_CodeKnown.j2 kj13 x4_1 x5_13 false))) else (vouchlaw21_CodeKnown.j2 kj13 x4_1 x5_13 false))) else (vouchlaw21_CodeKnown.j2 kj13 x4_1 x5_13 false)) = some r := H
      have A39 := Aside0.mk A390
      clear A390
      by_cases c40 : t120 = true
      ·subst c40
       have H1 : ((vouchlaw21_wrong.f kj13 (⟨#[86, 80, 1, 255, 255, 255, 255, 255]⟩ : ByteArray) 210 3).bind fun t121 => (if t121 = true then ((vouchlaw21_wrong.f kj13 (⟨#[86, 80, 1, 255, 255, 255, 255]⟩ : ByteArray) 210 7).bind fun t122 => (if t122 = true then ((vouchlaw21_wrong.f kj13 (⟨#[86, 80, 1, 0, 129, 64]⟩ : ByteArray) 3 4).bind fun t123 => (if t123 = true then ((vouchlaw21_wrong.f kj13 (⟨#[86, 80, 1, 0, 0, 129, 128, 2]⟩ : ByteArray) 3 5).bind fun t124 => (if t124 = true then ((vouchlaw21_wrong.f kj13 (⟨#[86, 80, 1, 0, 1, 5, 97, 98]⟩ : ByteArray) 210 8).bind fun t125 => (if t125 = true then ((vouchlaw21_wrong.f kj13 (⟨#[86, 80, 1, 0, 0, 1, 0]⟩ : ByteArray) 210 6).bind fun t126 => (vouchlaw21_CodeKnown.j2 kj13 x4_1 x5_13 t126)) else (vouchlaw21_CodeKnown.j2 kj13 x4_1 x5_13 false))) else (vouchlaw21_CodeKnown.j2 kj13 x4_1 x5_13 false))) else (vouchlaw21_CodeKnown.j2 kj13 x4_1 x5_13 false))) else (vouchlaw21_CodeKnown.j2 kj13 x4_1 x5_13 false))) else (vouchlaw21_CodeKnown.j2 kj13 x4_1 x5_13 false))) = some r := by rw [if_pos rfl] at H; exact H
       clear H
       have H := H1
       clear H1
       replace H := Option.bind_eq_some_iff.mp H
       obtain ⟨t121, A410, H⟩ := H
       replace H : (if t121 = true then ((vouchlaw21_wrong.f kj13 (⟨#[86, 80, 1, 255, 255, 255, 255]⟩ : ByteArray) 210 7).bind fun t122 => (if t122 = true then ((vouchlaw21_wrong.f kj13 (⟨#[86, 80, 1, 0, 129, 64]⟩ : ByteArray) 3 4).bind fun t123 => (if t123 = true then ((vouchlaw21_wrong.f kj13 (⟨#[86, 80, 1, 0, 0, 129, 128, 2]⟩ : ByteArray) 3 5).bind fun t124 => (if t124 = true then ((vouchlaw21_wrong.f kj13 (⟨#[86, 80, 1, 0, 1, 5, 97, 98]⟩ : ByteArray) 210 8).bind fun t125 => (if t125 = true then ((vouchlaw21_wrong.f kj13 (⟨#[86, 80, 1, 0, 0, 1, 0]⟩ : ByteArray) 210 6).bind fun t126 => (vouchlaw21_CodeKnown.j2 kj13 x4_1 x5_13 t126)) else (vouchlaw21_CodeKnown.j2 kj13 x4_1 x5_13 false))) else (vouchlaw21_CodeKnown.j2 kj13 x4_1 x5_13 false))) else (vouchlaw21_CodeKnown.j2 kj13 x4_1 x5_13 false))) else (vouchlaw21_CodeKnown.j2 kj13 x4_1 x5_13 false))) else (vouchlaw21_CodeKnown.j2 kj13 x4_1 x5_13 false)) = some r := H
       have A41 := Aside0.mk A410
       clear A410
       by_cases c42 : t121 = true
       ·subst c42
        have H1 : ((vouchlaw21_wrong.f kj13 (⟨#[86, 80, 1, 255, 255, 255, 255]⟩ : ByteArray) 210 7).bind fun t122 => (if t122 = true then ((vouchlaw21_wrong.f kj13 (⟨#[86, 80, 1, 0, 129, 64]⟩ : ByteArray) 3 4).bind fun t123 => (if t123 = true then ((vouchlaw21_wrong.f kj13 (⟨#[86, 80, 1, 0, 0, 129, 128, 2]⟩ : ByteArray) 3 5).bind fun t124 => (if t124 = true then ((vouchlaw21_wrong.f kj13 (⟨#[86, 80, 1, 0, 1, 5, 97, 98]⟩ : ByteArray) 210 8).bind fun t125 => (if t125 = true then ((vouchlaw21_wrong.f kj13 (⟨#[86, 80, 1, 0, 0, 1, 0]⟩ : ByteArray) 210 6).bind fun t126 => (vouchlaw21_CodeKnown.j2 kj13 x4_1 x5_13 t126)) else (vouchlaw21_CodeKnown.j2 kj13 x4_1 x5_13 false))) else (vouchlaw21_CodeKnown.j2 kj13 x4_1 x5_13 false))) else (vouchlaw21_CodeKnown.j2 kj13 x4_1 x5_13 false))) else (vouchlaw21_CodeKnown.j2 kj13 x4_1 x5_13 false))) = some r := by rw [if_pos rfl] at H; exact H
        clear H
        have H := H1
        clear H1
        replace H := Option.bind_eq_some_iff.mp H
        obtain ⟨t122, A430, H⟩ := H
        replace H : (if t122 = true then ((vouchlaw21_wrong.f kj13 (⟨#[86, 80, 1, 0, 129, 64]⟩ : ByteArray) 3 4).bind fun t123 => (if t123 = true then ((vouchlaw21_wrong.f kj13 (⟨#[86, 80, 1, 0, 0, 129, 128, 2]⟩ : ByteArray) 3 5).bind fun t124 => (if t124 = true then ((vouchlaw21_wrong.f kj13 (⟨#[86, 80, 1, 0, 1, 5, 97, 98]⟩ : ByteArray) 210 8).bind fun t125 => (if t125 = true then ((vouchlaw21_wrong.f kj13 (⟨#[86, 80, 1, 0, 0, 1, 0]⟩ : ByteArray) 210 6).bind fun t126 => (vouchlaw21_CodeKnown.j2 kj13 x4_1 x5_13 t126)) else (vouchlaw21_CodeKnown.j2 kj13 x4_1 x5_13 false))) else (vouchlaw21_CodeKnown.j2 kj13 x4_1 x5_13 false))) else (vouchlaw21_CodeKnown.j2 kj13 x4_1 x5_13 false))) else (vouchlaw21_CodeKnown.j2 kj13 x4_1 x5_13 false)) = some r := H
        have A43 := Aside0.mk A430
        clear A430
        by_cases c44 : t122 = true
        ·subst c44
         have H1 : ((vouchlaw21_wrong.f kj13 (⟨#[86, 80, 1, 0, 129, 64]⟩ : ByteArray) 3 4).bind fun t123 => (if t123 = true then ((vouchlaw21_wrong.f kj13 (⟨#[86, 80, 1, 0, 0, 129, 128, 2]⟩ : ByteArray) 3 5).bind fun t124 => (if t124 = true then ((vouchlaw21_wrong.f kj13 (⟨#[86, 80, 1, 0, 1, 5, 97, 98]⟩ : ByteArray) 210 8).bind fun t125 => (if t125 = true then ((vouchlaw21_wrong.f kj13 (⟨#[86, 80, 1, 0, 0, 1, 0]⟩ : ByteArray) 210 6).bind fun t126 => (vouchlaw21_CodeKnown.j2 kj13 x4_1 x5_13 t126)) else (vouchlaw21_CodeKnown.j2 kj13 x4_1 x5_13 false))) else (vouchlaw21_CodeKnown.j2 kj13 x4_1 x5_13 false))) else (vouchlaw21_CodeKnown.j2 kj13 x4_1 x5_13 false))) = some r := by rw [if_pos rfl] at H; exact H
         clear H
         have H := H1
         clear H1
         replace H := Option.bind_eq_some_iff.mp H
         obtain ⟨t123, A450, H⟩ := H
         replace H : (if t123 = true then ((vouchlaw21_wrong.f kj13 (⟨#[86, 80, 1, 0, 0, 129, 128, 2]⟩ : ByteArray) 3 5).bind fun t124 => (if t124 = true then ((vouchlaw21_wrong.f kj13 (⟨#[86, 80, 1, 0, 1, 5, 97, 98]⟩ : ByteArray) 210 8).bind fun t125 => (if t125 = true then ((vouchlaw21_wrong.f kj13 (⟨#[86, 80, 1, 0, 0, 1, 0]⟩ : ByteArray) 210 6).bind fun t126 => (vouchlaw21_CodeKnown.j2 kj13 x4_1 x5_13 t126)) else (vouchlaw21_CodeKnown.j2 kj13 x4_1 x5_13 false))) else (vouchlaw21_CodeKnown.j2 kj13 x4_1 x5_13 false))) else (vouchlaw21_CodeKnown.j2 kj13 x4_1 x5_13 false)) = some r := H
         have A45 := Aside0.mk A450
         clear A450
         by_cases c46 : t123 = true
         ·subst c46
          have H1 : ((vouchlaw21_wrong.f kj13 (⟨#[86, 80, 1, 0, 0, 129, 128, 2]⟩ : ByteArray) 3 5).bind fun t124 => (if t124 = true then ((vouchlaw21_wrong.f kj13 (⟨#[86, 80, 1, 0, 1, 5, 97, 98]⟩ : ByteArray) 210 8).bind fun t125 => (if t125 = true then ((vouchlaw21_wrong.f kj13 (⟨#[86, 80, 1, 0, 0, 1, 0]⟩ : ByteArray) 210 6).bind fun t126 => (vouchlaw21_CodeKnown.j2 kj13 x4_1 x5_13 t126)) else (vouchlaw21_CodeKnown.j2 kj13 x4_1 x5_13 false))) else (vouchlaw21_CodeKnown.j2 kj13 x4_1 x5_13 false))) = some r := by rw [if_pos rfl] at H; exact H
          clear H
          have H := H1
          clear H1
          replace H := Option.bind_eq_some_iff.mp H
          obtain ⟨t124, A470, H⟩ := H
          replace H : (if t124 = true then ((vouchlaw21_wrong.f kj13 (⟨#[86, 80, 1, 0, 1, 5, 97, 98]⟩ : ByteArray) 210 8).bind fun t125 => (if t125 = true then ((vouchlaw21_wrong.f kj13 (⟨#[86, 80, 1, 0, 0, 1, 0]⟩ : ByteArray) 210 6).bind fun t126 => (vouchlaw21_CodeKnown.j2 kj13 x4_1 x5_13 t126)) else (vouchlaw21_CodeKnown.j2 kj13 x4_1 x5_13 false))) else (vouchlaw21_CodeKnown.j2 kj13 x4_1 x5_13 false)) = some r := H
          have A47 := Aside0.mk A470
          clear A470
          by_cases c48 : t124 = true
          ·subst c48
           have H1 : ((vouchlaw21_wrong.f kj13 (⟨#[86, 80, 1, 0, 1, 5, 97, 98]⟩ : ByteArray) 210 8).bind fun t125 => (if t125 = true then ((vouchlaw21_wrong.f kj13 (⟨#[86, 80, 1, 0, 0, 1, 0]⟩ : ByteArray) 210 6).bind fun t126 => (vouchlaw21_CodeKnown.j2 kj13 x4_1 x5_13 t126)) else (vouchlaw21_CodeKnown.j2 kj13 x4_1 x5_13 false))) = some r := by rw [if_pos rfl] at H; exact H
           clear H
           have H := H1
           clear H1
           replace H := Option.bind_eq_some_iff.mp H
           obtain ⟨t125, A490, H⟩ := H
           replace H : (if t125 = true then ((vouchlaw21_wrong.f kj13 (⟨#[86, 80, 1, 0, 0, 1, 0]⟩ : ByteArray) 210 6).bind fun t126 => (vouchlaw21_CodeKnown.j2 kj13 x4_1 x5_13 t126)) else (vouchlaw21_CodeKnown.j2 kj13 x4_1 x5_13 false)) = some r := H
           have A49 := Aside0.mk A490
           clear A490
           by_cases c50 : t125 = true
           ·subst c50
            have H1 : ((vouchlaw21_wrong.f kj13 (⟨#[86, 80, 1, 0, 0, 1, 0]⟩ : ByteArray) 210 6).bind fun t126 => (vouchlaw21_CodeKnown.j2 kj13 x4_1 x5_13 t126)) = some r := by rw [if_pos rfl] at H; exact H
            clear H
            have H := H1
            clear H1
            replace H := Option.bind_eq_some_iff.mp H
            obtain ⟨t126, A510, H⟩ := H
            replace H : (vouchlaw21_CodeKnown.j2 kj13 x4_1 x5_13 t126) = some r := H
            have A51 := Aside0.mk A510
            clear A510
            have H' := Aside0.mk H
            clear H
            go_wp2_with (first | ((with_reducible refine gate_callee (f := 22) rfl ?_); refine goesL_ (some 56) rfl rfl Try.func22 (by kernel_rfl) rfl #[.string (⟨#[86, 80, 1, 255, 255, 255, 255, 8]⟩ : ByteArray), .int .i64 210, .int .i64 3] rfl (by (try simp only [List.map_toArray, List.map_cons, List.map_nil]); first | done | rfl | (simp only [List.length_drop, List.length_take]; rfl)) ?_; (with_reducible refine (vouchlaw21_wrong.calls kj13 (⟨#[86, 80, 1, 255, 255, 255, 255, 8]⟩ : ByteArray) 210 3 true _ A39.out).mono ?_); rintro e w52 ⟨rfl, hb⟩; refine ⟨_, rfl, ?_⟩; have n0_ := Aside0.mk (Kd.R_below (kr HO_108001) hb); have n1_ := Aside0.mk (Kd.R_below (kr HO_108002) hb); have n2_ := Aside0.mk (blk_below (g := gb107) (o := .cells #[.int .u8 2, .slice Ao8 y101.length co8, .slice Ao7 y104.length co7, .int .i64 300] 25 (0, 0)) (bk BK107) hb); have n3_ := Aside0.mk (below_step (bl1 HB GE107) hb); clear HO_108001; clear HO_108002; clear BK107; clear HB; have HO_108001 := n0_; have HO_108002 := n1_; have BK107 := n2_; have HB := n3_; clear n0_ n1_ n2_ n3_; (try clear hb); (try clear hb2); (try clear hk); (try clear hi)) | (go_at_call 22; (with_reducible refine (vouchlaw21_wrong.calls kj13 (⟨#[86, 80, 1, 255, 255, 255, 255, 255]⟩ : ByteArray) 210 3 true _ A41.out).mono ?_); rintro e w53 ⟨rfl, hb⟩; have n0_ := Aside0.mk (Kd.R_below (kr HO_108001) hb); have n1_ := Aside0.mk (Kd.R_below (kr HO_108002) hb); have n2_ := Aside0.mk (blk_below (g := gb107) (o := .cells #[.int .u8 2, .slice Ao8 y101.length co8, .slice Ao7 y104.length co7, .int .i64 300] 25 (0, 0)) (bk BK107) hb); have n3_ := Aside0.mk (below_step (bl1 HB GE107) hb); clear HO_108001; clear HO_108002; clear BK107; clear HB; have HO_108001 := n0_; have HO_108002 := n1_; have BK107 := n2_; have HB := n3_; clear n0_ n1_ n2_ n3_; (try clear hb); (try clear hb2); (try clear hk); (try clear hi)) | (go_at_call 22; (with_reducible refine (vouchlaw21_wrong.calls kj13 (⟨#[86, 80, 1, 255, 255, 255, 255]⟩ : ByteArray) 210 7 true _ A43.out).mono ?_); rintro e w54 ⟨rfl, hb⟩; have n0_ := Aside0.mk (Kd.R_below (kr HO_108001) hb); have n1_ := Aside0.mk (Kd.R_below (kr HO_108002) hb); have n2_ := Aside0.mk (blk_below (g := gb107) (o := .cells #[.int .u8 2, .slice Ao8 y101.length co8, .slice Ao7 y104.length co7, .int .i64 300] 25 (0, 0)) (bk BK107) hb); have n3_ := Aside0.mk (below_step (bl1 HB GE107) hb); clear HO_108001; clear HO_108002; clear BK107; clear HB; have HO_108001 := n0_; have HO_108002 := n1_; have BK107 := n2_; have HB := n3_; clear n0_ n1_ n2_ n3_; (try clear hb); (try clear hb2); (try clear hk); (try clear hi)) | (go_at_call 22; (with_reducible refine (vouchlaw21_wrong.calls kj13 (⟨#[86, 80, 1, 0, 129, 64]⟩ : ByteArray) 3 4 true _ A45.out).mono ?_); rintro e w55 ⟨rfl, hb⟩; have n0_ := Aside0.mk (Kd.R_below (kr HO_108001) hb); have n1_ := Aside0.mk (Kd.R_below (kr HO_108002) hb); have n2_ := Aside0.mk (blk_below (g := gb107) (o := .cells #[.int .u8 2, .slice Ao8 y101.length co8, .slice Ao7 y104.length co7, .int .i64 300] 25 (0, 0)) (bk BK107) hb); have n3_ := Aside0.mk (below_step (bl1 HB GE107) hb); clear HO_108001; clear HO_108002; clear BK107; clear HB; have HO_108001 := n0_; have HO_108002 := n1_; have BK107 := n2_; have HB := n3_; clear n0_ n1_ n2_ n3_; (try clear hb); (try clear hb2); (try clear hk); (try clear hi)) | (go_at_call 22; (with_reducible refine (vouchlaw21_wrong.calls kj13 (⟨#[86, 80, 1, 0, 0, 129, 128, 2]⟩ : ByteArray) 3 5 true _ A47.out).mono ?_); rintro e w56 ⟨rfl, hb⟩; have n0_ := Aside0.mk (Kd.R_below (kr HO_108001) hb); have n1_ := Aside0.mk (Kd.R_below (kr HO_108002) hb); have n2_ := Aside0.mk (blk_below (g := gb107) (o := .cells #[.int .u8 2, .slice Ao8 y101.length co8, .slice Ao7 y104.length co7, .int .i64 300] 25 (0, 0)) (bk BK107) hb); have n3_ := Aside0.mk (below_step (bl1 HB GE107) hb); clear HO_108001; clear HO_108002; clear BK107; clear HB; have HO_108001 := n0_; have HO_108002 := n1_; have BK107 := n2_; have HB := n3_; clear n0_ n1_ n2_ n3_; (try clear hb); (try clear hb2); (try clear hk); (try clear hi)) | (go_at_call 22; (with_reducible refine (vouchlaw21_wrong.calls kj13 (⟨#[86, 80, 1, 0, 1, 5, 97, 98]⟩ : ByteArray) 210 8 true _ A49.out).mono ?_); rintro e w57 ⟨rfl, hb⟩; have n0_ := Aside0.mk (Kd.R_below (kr HO_108001) hb); have n1_ := Aside0.mk (Kd.R_below (kr HO_108002) hb); have n2_ := Aside0.mk (blk_below (g := gb107) (o := .cells #[.int .u8 2, .slice Ao8 y101.length co8, .slice Ao7 y104.length co7, .int .i64 300] 25 (0, 0)) (bk BK107) hb); have n3_ := Aside0.mk (below_step (bl1 HB GE107) hb); clear HO_108001; clear HO_108002; clear BK107; clear HB; have HO_108001 := n0_; have HO_108002 := n1_; have BK107 := n2_; have HB := n3_; clear n0_ n1_ n2_ n3_; (try clear hb); (try clear hb2); (try clear hk); (try clear hi)) | (go_at_call 22; (with_reducible refine (vouchlaw21_wrong.calls kj13 (⟨#[86, 80, 1, 0, 0, 1, 0]⟩ : ByteArray) 210 6 t126 _ A51.out).mono ?_); rintro e w58 ⟨rfl, hb⟩; have n0_ := Aside0.mk (Kd.R_below (kr HO_108001) hb); have n1_ := Aside0.mk (Kd.R_below (kr HO_108002) hb); have n2_ := Aside0.mk (blk_below (g := gb107) (o := .cells #[.int .u8 2, .slice Ao8 y101.length co8, .slice Ao7 y104.length co7, .int .i64 300] 25 (0, 0)) (bk BK107) hb); have n3_ := Aside0.mk (below_step (bl1 HB GE107) hb); clear HO_108001; clear HO_108002; clear BK107; clear HB; have HO_108001 := n0_; have HO_108002 := n1_; have BK107 := n2_; have HB := n3_; clear n0_ n1_ n2_ n3_; (try clear hb); (try clear hb2); (try clear hk); (try clear hi)))
            go_meet
            case rel => exact ⟨_, (t126), (by first | rfl | (simp; done) | (simp [*]; done)), H', ⟨by have := HJ1.out; have := HJ13.out; first | omega | exact Nat.le_refl _⟩, ⟨by (with_reducible repeat (first | apply Kd.R_alloc | apply Kd.R_drewN | apply Kd.R_drew)); exact HO_108001.out⟩, ⟨by (with_reducible repeat (first | apply Kd.R_alloc | apply Kd.R_drewN | apply Kd.R_drew)); exact HO_108002.out⟩, ⟨by (with_reducible repeat (first | refine blk_drewN ?_ _ | refine blk_drew ?_ | refine blk_alloc ?_ _)); exact BK107.out⟩, ⟨by repeat (first | (with_reducible first | exact HB.out | apply below_alloc | apply pw_below_drewN | apply below_drew1 | refine below_set ?_ GE107.out) | exact HB.out)⟩⟩
           ·replace c50 := Bool.eq_false_iff.mpr c50
            subst c50
            have H1 : (vouchlaw21_CodeKnown.j2 kj13 x4_1 x5_13 false) = some r := by rw [if_neg (show ¬ (false = true) by decide)] at H; exact H
            clear H
            have H := H1
            clear H1
            exact absurd (vouchlaw21_CodeKnown.dead_j2 H (by first | rfl | simp)) (by rw [hr_]; decide)
          ·replace c48 := Bool.eq_false_iff.mpr c48
           subst c48
           have H1 : (vouchlaw21_CodeKnown.j2 kj13 x4_1 x5_13 false) = some r := by rw [if_neg (show ¬ (false = true) by decide)] at H; exact H
           clear H
           have H := H1
           clear H1
           exact absurd (vouchlaw21_CodeKnown.dead_j2 H (by first | rfl | simp)) (by rw [hr_]; decide)
         ·replace c46 := Bool.eq_false_iff.mpr c46
          subst c46
          have H1 : (vouchlaw21_CodeKnown.j2 kj13 x4_1 x5_13 false) = some r := by rw [if_neg (show ¬ (false = true) by decide)] at H; exact H
          clear H
          have H := H1
          clear H1
          exact absurd (vouchlaw21_CodeKnown.dead_j2 H (by first | rfl | simp)) (by rw [hr_]; decide)
        ·replace c44 := Bool.eq_false_iff.mpr c44
         subst c44
         have H1 : (vouchlaw21_CodeKnown.j2 kj13 x4_1 x5_13 false) = some r := by rw [if_neg (show ¬ (false = true) by decide)] at H; exact H
         clear H
         have H := H1
         clear H1
         exact absurd (vouchlaw21_CodeKnown.dead_j2 H (by first | rfl | simp)) (by rw [hr_]; decide)
       ·replace c42 := Bool.eq_false_iff.mpr c42
        subst c42
        have H1 : (vouchlaw21_CodeKnown.j2 kj13 x4_1 x5_13 false) = some r := by rw [if_neg (show ¬ (false = true) by decide)] at H; exact H
        clear H
        have H := H1
        clear H1
        exact absurd (vouchlaw21_CodeKnown.dead_j2 H (by first | rfl | simp)) (by rw [hr_]; decide)
      ·replace c40 := Bool.eq_false_iff.mpr c40
       subst c40
       have H1 : (vouchlaw21_CodeKnown.j2 kj13 x4_1 x5_13 false) = some r := by rw [if_neg (show ¬ (false = true) by decide)] at H; exact H
       clear H
       have H := H1
       clear H1
       exact absurd (vouchlaw21_CodeKnown.dead_j2 H (by first | rfl | simp)) (by rw [hr_]; decide)
     case rest =>
      clear HC38
      try clear c1
      try clear hcv1
      try clear c2
      try clear p2
      try clear c3
      try clear c4
      try clear c5
      try clear c9
      try clear c11
      try clear c12
      try clear c12b0
      try clear c12b1
      try clear hcv13
      try clear c16
      try clear c18
      try clear c20
      try clear c22
      try clear c24
      try clear c26
      try clear c28
      try clear c40
      try clear c42
      try clear c44
      try clear c46
      try clear c48
      try clear c50
      try clear hcz10_0
      try clear hcz10_1
      try clear hcz10_2
      try clear hcz10_3
      try clear hfz10_0
      try clear hfz10_1
      try clear hfz10_2
      try clear hfz10_3
      try clear p2
      obtain ⟨kq, x6_37, rfl, HA, HJ37, HO_108001, HO_108002, BK107, HB⟩ := hcut
      cases kq with
      | zero => exact absurd HA.out (by simp [vouchlaw21_CodeKnown.j2])
      | succ kj37 =>
       have H := HA.out
       clear HA
       simp only [vouchlaw21_CodeKnown.j2] at H
       obtain ⟨y127, hy127⟩ : ∃ y_ : List Int, y_ = (([86, 80, 1, 255, 255, 255, 255, 7, 0, 1, 33] : List Int)) := ⟨_, rfl⟩
       replace H : ((code_Decode.f kj37 y127).bind fun bt131 => (if bt131.2.2.2.2.2 = 0 then (vouchlaw21_CodeKnown.j3 kj37 x4_1 x5_13 x6_37 (bt131.2.2.2.1 == 2147483647)) else (vouchlaw21_CodeKnown.j3 kj37 x4_1 x5_13 x6_37 false))) = some r := by first | (rw [hy127]; with_reducible exact H) | (have H2_ := (Option.bind_some _ _).symm.trans H; rw [hy127]; with_reducible exact H2_) | (have H2_ := (Option.bind_some _ _).symm.trans H; with_reducible exact H2_) | with_reducible exact H | (rw [hy127]; exact H) | exact H
       have Ny127 := Aside0.mk hy127
       clear hy127
       replace H := Option.bind_eq_some_iff.mp H
       obtain ⟨⟨t131, t132, t135, t138, t139, t140⟩, A590, H⟩ := H
       replace H : (if t140 = 0 then (vouchlaw21_CodeKnown.j3 kj37 x4_1 x5_13 x6_37 (t138 == 2147483647)) else (vouchlaw21_CodeKnown.j3 kj37 x4_1 x5_13 x6_37 false)) = some r := H
       have A59 := Aside0.mk A590
       clear A590
       have HC60 := Aside0.mk H
       clear H
       go_upto_region 7 with (first | ((with_reducible refine gate_dst (N := 76) rfl ?_); (try (refine gate_guard (by rfl) ?_; dsimp only)); refine Kd.blit_new rfl (N := 76) rfl rfl 27 5 _ rfl ([86, 80, 1, 255, 255, 255, 255, 7, 0, 1, 33] : List Int) Try.underlying27 Try.underlying5 (by decide) ?hr ?hx ?_; (case hr => first | (go_simp; done) | (go_simp; rfl)); (case hx => rfl); intro Ab127 cb127 w61 hr hc hb; rw [← Ny127.out] at hr hc; (try rw [← Ny127.out]); have n0_ := Aside0.mk (Kd.R_below (kr HO_108001) hb); have n1_ := Aside0.mk (Kd.R_below (kr HO_108002) hb); have n2_ := Aside0.mk (blk_below (g := gb107) (o := .cells #[.int .u8 2, .slice Ao8 y101.length co8, .slice Ao7 y104.length co7, .int .i64 300] 25 (0, 0)) (bk BK107) hb); have n3_ := Aside0.mk (below_step (bl1 HB GE107) hb); have n4_ := Aside0.mk (hr); have n5_ := Aside0.mk (hc); clear HO_108001; clear HO_108002; clear BK107; clear HB; have HO_108001 := n0_; have HO_108002 := n1_; have BK107 := n2_; have HB := n3_; have HR130 := n4_; have HC130 := n5_; clear n0_ n1_ n2_ n3_ n4_ n5_; clear hb hr hc) | ((with_reducible refine gate_callee (f := 20) rfl ?_); refine goesL_ (some 78) rfl rfl Try.func20 (by kernel_rfl) rfl #[.slice Ab127 y127.length cb127] rfl (by (try simp only [List.map_toArray, List.map_cons, List.map_nil]); first | done | rfl | (simp only [List.length_drop, List.length_take]; rfl)) ?_; (with_reducible refine (code_Decode.calls kj37 _ _ y127 t131 t132 t135 t138 t139 t140 _ ?side1 ?side2 A59.out).mono ?_); (case side1 => repeat (first | exact (by repeat (first | (with_reducible exact HR130.out) | (with_reducible refine Kd.C_alloc ?_ _) | (with_reducible refine Kd.C_drewN ?_ _) | (with_reducible refine Kd.C_drew ?_) | exact HR130.out)) | (with_reducible refine Kd.C_alloc ?_ _) | (with_reducible refine Kd.C_drewN ?_ _) | (with_reducible refine Kd.C_drew ?_))); (case side2 => exact HC130.out); rintro e w62 ⟨v133, v136, rfl, ho0, ho1, hb⟩; refine ⟨_, rfl, ?_⟩; have n0_ := Aside0.mk (Kd.R_elder' (kr HO_108001) (Kd.R_base ho0) hb); have n1_ := Aside0.mk (Kd.R_elder' (kr HO_108002) (Kd.R_base ho1) hb); have n2_ := Aside0.mk (Kd.R_lower (Kd.R_new' ho0 (Kd.R_lt (kr HO_108001))) (below_size (bl1 HB GE107))); have n3_ := Aside0.mk (Kd.R_lower (Kd.R_new' ho1 (Kd.R_lt (kr HO_108002))) (below_size (bl1 HB GE107))); have n4_ := Aside0.mk (blk_below (g := gb107) (o := .cells #[.int .u8 2, .slice Ao8 y101.length co8, .slice Ao7 y104.length co7, .int .i64 300] 25 (0, 0)) (bk BK107) hb); have n5_ := Aside0.mk (Kd.C_below (by repeat (first | (with_reducible exact HR130.out) | (with_reducible refine Kd.C_alloc ?_ _) | (with_reducible refine Kd.C_drewN ?_ _) | (with_reducible refine Kd.C_drew ?_) | exact HR130.out)) hb); have n6_ := Aside0.mk (below_step (bl1 HB GE107) hb); clear HO_108001; clear HO_108002; clear BK107; clear HR130; clear HB; have HO_108001 := n0_; have HO_108002 := n1_; have HO134 := n2_; have HO137 := n3_; have BK107 := n4_; have HR130 := n5_; have HB := n6_; clear n0_ n1_ n2_ n3_ n4_ n5_ n6_; (try clear hb); (try clear hb2); (try clear hk); (try clear hi); (try clear ho0); (try clear ho1)) | ((with_reducible refine gate_dst (N := 7) rfl ?_); (try (refine gate_guard (by rfl) ?_; dsimp only)); refine box_event ?hg (N := 7) ?hd (cs := #[.int .u8 0, .slice none 0 0, .slice none 0 0, .int .i64 0]) (t := 25) ?hr ?_; (case hd => rfl); (case hg => rfl); (case hr => first | (go_simp; done) | (go_simp; rfl)); intro gb141 hg w63 hbox hb; have n0_ := Aside0.mk (Kd.R_below (kr HO_108001) hb); have n1_ := Aside0.mk (Kd.R_below (kr HO_108002) hb); have n2_ := Aside0.mk (Kd.R_below (kr HO134) hb); have n3_ := Aside0.mk (Kd.R_below (kr HO137) hb); have n4_ := Aside0.mk (blk_below (g := gb107) (o := .cells #[.int .u8 2, .slice Ao8 y101.length co8, .slice Ao7 y104.length co7, .int .i64 300] 25 (0, 0)) (bk BK107) hb); have n5_ := Aside0.mk (Kd.C_below (by repeat (first | (with_reducible exact HR130.out) | (with_reducible refine Kd.C_alloc ?_ _) | (with_reducible refine Kd.C_drewN ?_ _) | (with_reducible refine Kd.C_drew ?_) | exact HR130.out)) hb); have n6_ := Aside0.mk (below_step (bl1 HB GE107) hb); have n7_ := Aside0.mk (hbox); have n8_ := Aside0.mk ((by rw [hg]; exact (below_size (bl1 HB GE107)) : w.heap.size ≤ gb141)); have n9_ := Aside0.mk ((by rw [hg]; exact (below_size (bl1 HB GE107)) : w.heap.size ≤ gb141)); have n10_ := Aside0.mk ((by rw [hg]; exact Nat.ne_of_lt (blk_lt (g := gb107) (o := .cells #[.int .u8 2, .slice Ao8 y101.length co8, .slice Ao7 y104.length co7, .int .i64 300] 25 (0, 0)) (bk BK107)) : gb107 ≠ gb141)); have n11_ := Aside0.mk ((by rw [hg]; exact Nat.ne_of_gt (blk_lt (g := gb107) (o := .cells #[.int .u8 2, .slice Ao8 y101.length co8, .slice Ao7 y104.length co7, .int .i64 300] 25 (0, 0)) (bk BK107)) : gb141 ≠ gb107)); clear HO_108001; clear HO_108002; clear HO134; clear HO137; clear BK107; clear HR130; clear HB; have HO_108001 := n0_; have HO_108002 := n1_; have HO134 := n2_; have HO137 := n3_; have BK107 := n4_; have HR130 := n5_; have HB := n6_; have BK141 := n7_; have GW141 := n8_; have GE141 := n9_; have NB107_141 := n10_; have NB141_107 := n11_; clear n0_ n1_ n2_ n3_ n4_ n5_ n6_ n7_ n8_ n9_ n10_ n11_; clear hb hbox hg; have hnb64 := NB141_107.out; have hnc64 := NB107_141.out; have hcz65_0 : w63.cell? ⟨gb141, 0, none⟩ = some (.int .u8 0) := (blk_cell BK141.out 0).trans rfl; have hcz65_1 : w63.cell? ⟨gb141, 1, none⟩ = some (.slice none 0 0) := (blk_cell BK141.out 1).trans rfl; have hcz65_2 : w63.cell? ⟨gb141, 2, none⟩ = some (.slice none 0 0) := (blk_cell BK141.out 2).trans rfl; have hcz65_3 : w63.cell? ⟨gb141, 3, none⟩ = some (.int .i64 0) := (blk_cell BK141.out 3).trans rfl; have hfz65_0 := blk_frozen BK141.out 0; have hfz65_1 := blk_frozen BK141.out 1; have hfz65_2 := blk_frozen BK141.out 2; have hfz65_3 := blk_frozen BK141.out 3; obtain ⟨Ao66, co66, eo66⟩ := Kd.R_slice HO134.out; subst eo66; obtain ⟨Ao67, co67, eo67⟩ := Kd.R_slice HO137.out; subst eo67))
       (try simp only [Act.put, List.setIfInBounds_toArray, List.set_cons_zero, List.set_cons_succ])
       go_cut [10] (fun v10 wc => ∃ (kq : Nat) (x10_59 : Bool), v10 = .bool x10_59 ∧ Aside0 (vouchlaw21_CodeKnown.j3 kq x4_1 x5_13 x6_37 x10_59 = some r) ∧ Aside0 (kq ≤ kj37) ∧ Aside0 (Kd.R Kd.string 9 wc w.heap.size (fun k_ => some k_ ≠ ((.slice Ao66 t132.length co66) : Value).ownBlock) (.slice Ao8 y101.length co8) y101) ∧ Aside0 (Kd.R k41 41 wc w.heap.size (fun k_ => some k_ ≠ ((.slice Ao67 t135.length co67) : Value).ownBlock) (.slice Ao7 y104.length co7) y104) ∧ Aside0 (Kd.R Kd.string 9 wc w.heap.size (fun k_ => some k_ ≠ ((.slice Ao8 y101.length co8) : Value).ownBlock) (.slice Ao66 t132.length co66) t132) ∧ Aside0 (Kd.R k41 41 wc w.heap.size (fun k_ => some k_ ≠ ((.slice Ao7 y104.length co7) : Value).ownBlock) (.slice Ao67 t135.length co67) t135) ∧ Aside0 (wc.heap[gb107]? = some (.cells #[.int .u8 2, (.slice Ao8 y101.length co8), (.slice Ao7 y104.length co7), .int .i64 300] 25 (0, 0))) ∧ Aside0 (wc.heap[gb141]? = some (.cells #[.int .u8 t131, (.slice Ao66 t132.length co66), (.slice Ao67 t135.length co67), .int .i64 t138] 25 (0, 0))) ∧ Aside0 (Below w.heap.size w wc))
       case first =>
        have H := HC60.out
        clear HC60
        by_cases c68 : t140 = 0
        ·rw [if_pos c68] at H
         have c68b0 : (t140 == 0) = true := beq_iff_eq.mpr c68
         have c68b1 : (t140 != 0) = false := bne_eq_false_iff_eq.mpr c68
         clear c68
         (first | rw [c68b0] | (simp only [i64_w, i32_w]; rw [c68b0]) | skip)
         have H' := Aside0.mk H
         clear H
         have hnb69 := NB141_107.out
         have hnc69 := NB107_141.out
         have hcz70_0 : w63.cell? ⟨gb141, 0, none⟩ = some (.int .u8 0) := (blk_cell BK141.out 0).trans rfl
         have hcz70_1 : w63.cell? ⟨gb141, 1, none⟩ = some (.slice none 0 0) := (blk_cell BK141.out 1).trans rfl
         have hcz70_2 : w63.cell? ⟨gb141, 2, none⟩ = some (.slice none 0 0) := (blk_cell BK141.out 2).trans rfl
         have hcz70_3 : w63.cell? ⟨gb141, 3, none⟩ = some (.int .i64 0) := (blk_cell BK141.out 3).trans rfl
         have hfz70_0 := blk_frozen BK141.out 0
         have hfz70_1 := blk_frozen BK141.out 1
         have hfz70_2 := blk_frozen BK141.out 2
         have hfz70_3 := blk_frozen BK141.out 3
         go_wp2
         go_meet
         case rel => exact ⟨_, ((t138 == 2147483647)), (by first | rfl | (simp; done) | (simp [*]; done)), H', ⟨by have := HJ1.out; have := HJ13.out; have := HJ37.out; first | omega | exact Nat.le_refl _⟩, ⟨by (with_reducible repeat (first | apply Kd.R_alloc | apply Kd.R_drewN | apply Kd.R_drew)); exact Kd.R_mono (Kd.R_far (p := ⟨gb141, 3, none⟩) (Kd.R_far (p := ⟨gb141, 2, none⟩) (Kd.R_far (p := ⟨gb141, 1, none⟩) (Kd.R_far (p := ⟨gb141, 0, none⟩) (Kd.R_types HO_108001.out BK141.out (by decide)) (fun _ hk => hk.2) (.int .u8 t131)) (fun _ hk => hk.2) (.slice Ao66 t132.length co66)) (fun _ hk => hk.2) (.slice Ao67 t135.length co67)) (fun _ hk => hk.2) (.int .i64 t138)) (fun _ hk => hk.1.2)⟩, ⟨by (with_reducible repeat (first | apply Kd.R_alloc | apply Kd.R_drewN | apply Kd.R_drew)); exact Kd.R_mono (Kd.R_far (p := ⟨gb141, 3, none⟩) (Kd.R_far (p := ⟨gb141, 2, none⟩) (Kd.R_far (p := ⟨gb141, 1, none⟩) (Kd.R_far (p := ⟨gb141, 0, none⟩) (Kd.R_types HO_108002.out BK141.out (by decide)) (fun _ hk => hk.2) (.int .u8 t131)) (fun _ hk => hk.2) (.slice Ao66 t132.length co66)) (fun _ hk => hk.2) (.slice Ao67 t135.length co67)) (fun _ hk => hk.2) (.int .i64 t138)) (fun _ hk => hk.1.2)⟩, ⟨by (with_reducible repeat (first | apply Kd.R_alloc | apply Kd.R_drewN | apply Kd.R_drew)); exact Kd.R_mono (Kd.R_far (p := ⟨gb141, 3, none⟩) (Kd.R_far (p := ⟨gb141, 2, none⟩) (Kd.R_far (p := ⟨gb141, 1, none⟩) (Kd.R_far (p := ⟨gb141, 0, none⟩) (Kd.R_types HO134.out BK141.out (by decide)) (fun _ hk => hk.2) (.int .u8 t131)) (fun _ hk => hk.2) (.slice Ao66 t132.length co66)) (fun _ hk => hk.2) (.slice Ao67 t135.length co67)) (fun _ hk => hk.2) (.int .i64 t138)) (fun _ hk => hk.1.2)⟩, ⟨by (with_reducible repeat (first | apply Kd.R_alloc | apply Kd.R_drewN | apply Kd.R_drew)); exact Kd.R_mono (Kd.R_far (p := ⟨gb141, 3, none⟩) (Kd.R_far (p := ⟨gb141, 2, none⟩) (Kd.R_far (p := ⟨gb141, 1, none⟩) (Kd.R_far (p := ⟨gb141, 0, none⟩) (Kd.R_types HO137.out BK141.out (by decide)) (fun _ hk => hk.2) (.int .u8 t131)) (fun _ hk => hk.2) (.slice Ao66 t132.length co66)) (fun _ hk => hk.2) (.slice Ao67 t135.length co67)) (fun _ hk => hk.2) (.int .i64 t138)) (fun _ hk => hk.1.2)⟩, ⟨by (with_reducible repeat (first | refine blk_drewN ?_ _ | refine blk_drew ?_ | refine blk_alloc ?_ _)); refine blk_far ?_ NB107_141.out _; (with_reducible repeat (first | refine blk_drewN ?_ _ | refine blk_drew ?_ | refine blk_alloc ?_ _)); refine blk_far ?_ NB107_141.out _; (with_reducible repeat (first | refine blk_drewN ?_ _ | refine blk_drew ?_ | refine blk_alloc ?_ _)); refine blk_far ?_ NB107_141.out _; (with_reducible repeat (first | refine blk_drewN ?_ _ | refine blk_drew ?_ | refine blk_alloc ?_ _)); refine blk_far ?_ NB107_141.out _; (with_reducible repeat (first | refine blk_drewN ?_ _ | refine blk_drew ?_ | refine blk_alloc ?_ _)); exact BK107.out⟩, ⟨by (with_reducible repeat (first | refine blk_drewN ?_ _ | refine blk_drew ?_ | refine blk_alloc ?_ _)); refine blk_put (cs := #[.int .u8 t131, .slice Ao66 t132.length co66, .slice Ao67 t135.length co67, .int .i64 0]) ?_ 3 _ rfl; (with_reducible repeat (first | refine blk_drewN ?_ _ | refine blk_drew ?_ | refine blk_alloc ?_ _)); refine blk_put (cs := #[.int .u8 t131, .slice Ao66 t132.length co66, .slice none 0 0, .int .i64 0]) ?_ 2 _ rfl; (with_reducible repeat (first | refine blk_drewN ?_ _ | refine blk_drew ?_ | refine blk_alloc ?_ _)); refine blk_put (cs := #[.int .u8 t131, .slice none 0 0, .slice none 0 0, .int .i64 0]) ?_ 1 _ rfl; (with_reducible repeat (first | refine blk_drewN ?_ _ | refine blk_drew ?_ | refine blk_alloc ?_ _)); refine blk_put (cs := #[.int .u8 0, .slice none 0 0, .slice none 0 0, .int .i64 0]) ?_ 0 _ rfl; (with_reducible repeat (first | refine blk_drewN ?_ _ | refine blk_drew ?_ | refine blk_alloc ?_ _)); exact BK141.out⟩, ⟨by repeat (first | (with_reducible first | exact HB.out | apply below_alloc | apply pw_below_drewN | apply below_drew1 | refine below_set ?_ GE107.out | refine below_set ?_ GE141.out) | exact HB.out)⟩⟩
        ·rw [if_neg c68] at H
         have c68b0 : (t140 == 0) = false := beq_eq_false_iff_ne.mpr c68
         have c68b1 : (t140 != 0) = true := bne_iff_ne.mpr c68
         (first | rw [c68b0] | (simp only [i64_w, i32_w]; rw [c68b0]) | skip)
         exact absurd (vouchlaw21_CodeKnown.dead_j3 H (by first | rfl | simp)) (by rw [hr_]; decide)
       case rest =>
        clear HC60
        try clear c1
        try clear hcv1
        try clear c2
        try clear p2
        try clear c3
        try clear c4
        try clear c5
        try clear c6
        try clear c9
        try clear c11
        try clear c12
        try clear c12b0
        try clear c12b1
        try clear hcv13
        try clear c16
        try clear c18
        try clear c20
        try clear c22
        try clear c24
        try clear c26
        try clear c28
        try clear c40
        try clear c42
        try clear c44
        try clear c46
        try clear c48
        try clear c50
        try clear c64
        try clear c68
        try clear c68b0
        try clear c68b1
        try clear c69
        try clear hcz10_0
        try clear hcz10_1
        try clear hcz10_2
        try clear hcz10_3
        try clear hcz65_0
        try clear hcz65_1
        try clear hcz65_2
        try clear hcz65_3
        try clear hcz70_0
        try clear hcz70_1
        try clear hcz70_2
        try clear hcz70_3
        try clear hfz10_0
        try clear hfz10_1
        try clear hfz10_2
        try clear hfz10_3
        try clear hfz65_0
        try clear hfz65_1
        try clear hfz65_2
        try clear hfz65_3
        try clear hfz70_0
        try clear hfz70_1
        try clear hfz70_2
        try clear hfz70_3
        try clear p2
        obtain ⟨kq, x10_59, rfl, HA, HJ59, HO_108001, HO_108002, HO_142001, HO_142002, BK107, BK141, HB⟩ := hcut
        cases kq with
        | zero => exact absurd HA.out (by simp [vouchlaw21_CodeKnown.j3])
        | succ kj59 =>
         have H := HA.out
         clear HA
         simp only [vouchlaw21_CodeKnown.j3] at H
         obtain ⟨y142, hy142⟩ : ∃ y_ : List (S41), y_ = (([(⟨33, 0, 0⟩ : S41)] : List (S41))) := ⟨_, rfl⟩
         replace H : (vouchlaw21_CodeKnown.l0 kj59 x4_1 x5_13 x6_37 x10_59 (([(⟨0, ([] : List ByteArray), y142, 0⟩ : S25), (⟨3, ([] : List ByteArray), ([] : List (S41)), 0⟩ : S25), (⟨1, ([] : List ByteArray), ([] : List (S41)), (-1)⟩ : S25), (⟨1, ([] : List ByteArray), ([] : List (S41)), 2147483648⟩ : S25), (⟨1, ([] : List ByteArray), (([(⟨33, 1, 0⟩ : S41)] : List (S41))), 0⟩ : S25), (⟨1, ([] : List ByteArray), (([(⟨1, 0, 1⟩ : S41)] : List (S41))), 0⟩ : S25), (⟨1, ([] : List ByteArray), (([(⟨0, 0, 0⟩ : S41)] : List (S41))), 0⟩ : S25), (⟨1, ([] : List ByteArray), (([(⟨39, 0, 0⟩ : S41)] : List (S41))), 0⟩ : S25), (⟨1, ([] : List ByteArray), (([(⟨37, (-1), 0⟩ : S41)] : List (S41))), 0⟩ : S25), (⟨1, ([] : List ByteArray), (([(⟨28, 2147483648, 0⟩ : S41)] : List (S41))), 0⟩ : S25)] : List (S25))) 0) = some r := by first | (rw [hy142]; with_reducible exact H) | (have H2_ := (Option.bind_some _ _).symm.trans H; rw [hy142]; with_reducible exact H2_) | (have H2_ := (Option.bind_some _ _).symm.trans H; with_reducible exact H2_) | with_reducible exact H | (rw [hy142]; exact H) | exact H
         have Ny142 := Aside0.mk hy142
         clear hy142
         obtain ⟨y145, hy145⟩ : ∃ y_ : List (S41), y_ = (([(⟨33, 1, 0⟩ : S41)] : List (S41))) := ⟨_, rfl⟩
         replace H : (vouchlaw21_CodeKnown.l0 kj59 x4_1 x5_13 x6_37 x10_59 (([(⟨0, ([] : List ByteArray), y142, 0⟩ : S25), (⟨3, ([] : List ByteArray), ([] : List (S41)), 0⟩ : S25), (⟨1, ([] : List ByteArray), ([] : List (S41)), (-1)⟩ : S25), (⟨1, ([] : List ByteArray), ([] : List (S41)), 2147483648⟩ : S25), (⟨1, ([] : List ByteArray), y145, 0⟩ : S25), (⟨1, ([] : List ByteArray), (([(⟨1, 0, 1⟩ : S41)] : List (S41))), 0⟩ : S25), (⟨1, ([] : List ByteArray), (([(⟨0, 0, 0⟩ : S41)] : List (S41))), 0⟩ : S25), (⟨1, ([] : List ByteArray), (([(⟨39, 0, 0⟩ : S41)] : List (S41))), 0⟩ : S25), (⟨1, ([] : List ByteArray), (([(⟨37, (-1), 0⟩ : S41)] : List (S41))), 0⟩ : S25), (⟨1, ([] : List ByteArray), (([(⟨28, 2147483648, 0⟩ : S41)] : List (S41))), 0⟩ : S25)] : List (S25))) 0) = some r := by first | (rw [hy145]; with_reducible exact H) | (have H2_ := (Option.bind_some _ _).symm.trans H; rw [hy145]; with_reducible exact H2_) | (have H2_ := (Option.bind_some _ _).symm.trans H; with_reducible exact H2_) | with_reducible exact H | (rw [hy145]; exact H) | exact H
         have Ny145 := Aside0.mk hy145
         clear hy145
         obtain ⟨y148, hy148⟩ : ∃ y_ : List (S41), y_ = (([(⟨1, 0, 1⟩ : S41)] : List (S41))) := ⟨_, rfl⟩
         replace H : (vouchlaw21_CodeKnown.l0 kj59 x4_1 x5_13 x6_37 x10_59 (([(⟨0, ([] : List ByteArray), y142, 0⟩ : S25), (⟨3, ([] : List ByteArray), ([] : List (S41)), 0⟩ : S25), (⟨1, ([] : List ByteArray), ([] : List (S41)), (-1)⟩ : S25), (⟨1, ([] : List ByteArray), ([] : List (S41)), 2147483648⟩ : S25), (⟨1, ([] : List ByteArray), y145, 0⟩ : S25), (⟨1, ([] : List ByteArray), y148, 0⟩ : S25), (⟨1, ([] : List ByteArray), (([(⟨0, 0, 0⟩ : S41)] : List (S41))), 0⟩ : S25), (⟨1, ([] : List ByteArray), (([(⟨39, 0, 0⟩ : S41)] : List (S41))), 0⟩ : S25), (⟨1, ([] : List ByteArray), (([(⟨37, (-1), 0⟩ : S41)] : List (S41))), 0⟩ : S25), (⟨1, ([] : List ByteArray), (([(⟨28, 2147483648, 0⟩ : S41)] : List (S41))), 0⟩ : S25)] : List (S25))) 0) = some r := by first | (rw [hy148]; with_reducible exact H) | (have H2_ := (Option.bind_some _ _).symm.trans H; rw [hy148]; with_reducible exact H2_) | (have H2_ := (Option.bind_some _ _).symm.trans H; with_reducible exact H2_) | with_reducible exact H | (rw [hy148]; exact H) | exact H
         have Ny148 := Aside0.mk hy148
         clear hy148
         obtain ⟨y151, hy151⟩ : ∃ y_ : List (S41), y_ = (([(⟨0, 0, 0⟩ : S41)] : List (S41))) := ⟨_, rfl⟩
         replace H : (vouchlaw21_CodeKnown.l0 kj59 x4_1 x5_13 x6_37 x10_59 (([(⟨0, ([] : List ByteArray), y142, 0⟩ : S25), (⟨3, ([] : List ByteArray), ([] : List (S41)), 0⟩ : S25), (⟨1, ([] : List ByteArray), ([] : List (S41)), (-1)⟩ : S25), (⟨1, ([] : List ByteArray), ([] : List (S41)), 2147483648⟩ : S25), (⟨1, ([] : List ByteArray), y145, 0⟩ : S25), (⟨1, ([] : List ByteArray), y148, 0⟩ : S25), (⟨1, ([] : List ByteArray), y151, 0⟩ : S25), (⟨1, ([] : List ByteArray), (([(⟨39, 0, 0⟩ : S41)] : List (S41))), 0⟩ : S25), (⟨1, ([] : List ByteArray), (([(⟨37, (-1), 0⟩ : S41)] : List (S41))), 0⟩ : S25), (⟨1, ([] : List ByteArray), (([(⟨28, 2147483648, 0⟩ : S41)] : List (S41))), 0⟩ : S25)] : List (S25))) 0) = some r := by first | (rw [hy151]; with_reducible exact H) | (have H2_ := (Option.bind_some _ _).symm.trans H; rw [hy151]; with_reducible exact H2_) | (have H2_ := (Option.bind_some _ _).symm.trans H; with_reducible exact H2_) | with_reducible exact H | (rw [hy151]; exact H) | exact H
         have Ny151 := Aside0.mk hy151
         clear hy151
         obtain ⟨y154, hy154⟩ : ∃ y_ : List (S41), y_ = (([(⟨39, 0, 0⟩ : S41)] : List (S41))) := ⟨_, rfl⟩
         replace H : (vouchlaw21_CodeKnown.l0 kj59 x4_1 x5_13 x6_37 x10_59 (([(⟨0, ([] : List ByteArray), y142, 0⟩ : S25), (⟨3, ([] : List ByteArray), ([] : List (S41)), 0⟩ : S25), (⟨1, ([] : List ByteArray), ([] : List (S41)), (-1)⟩ : S25), (⟨1, ([] : List ByteArray), ([] : List (S41)), 2147483648⟩ : S25), (⟨1, ([] : List ByteArray), y145, 0⟩ : S25), (⟨1, ([] : List ByteArray), y148, 0⟩ : S25), (⟨1, ([] : List ByteArray), y151, 0⟩ : S25), (⟨1, ([] : List ByteArray), y154, 0⟩ : S25), (⟨1, ([] : List ByteArray), (([(⟨37, (-1), 0⟩ : S41)] : List (S41))), 0⟩ : S25), (⟨1, ([] : List ByteArray), (([(⟨28, 2147483648, 0⟩ : S41)] : List (S41))), 0⟩ : S25)] : List (S25))) 0) = some r := by first | (rw [hy154]; with_reducible exact H) | (have H2_ := (Option.bind_some _ _).symm.trans H; rw [hy154]; with_reducible exact H2_) | (have H2_ := (Option.bind_some _ _).symm.trans H; with_reducible exact H2_) | with_reducible exact H | (rw [hy154]; exact H) | exact H
         have Ny154 := Aside0.mk hy154
         clear hy154
         obtain ⟨y157, hy157⟩ : ∃ y_ : List (S41), y_ = (([(⟨37, (-1), 0⟩ : S41)] : List (S41))) := ⟨_, rfl⟩
         replace H : (vouchlaw21_CodeKnown.l0 kj59 x4_1 x5_13 x6_37 x10_59 (([(⟨0, ([] : List ByteArray), y142, 0⟩ : S25), (⟨3, ([] : List ByteArray), ([] : List (S41)), 0⟩ : S25), (⟨1, ([] : List ByteArray), ([] : List (S41)), (-1)⟩ : S25), (⟨1, ([] : List ByteArray), ([] : List (S41)), 2147483648⟩ : S25), (⟨1, ([] : List ByteArray), y145, 0⟩ : S25), (⟨1, ([] : List ByteArray), y148, 0⟩ : S25), (⟨1, ([] : List ByteArray), y151, 0⟩ : S25), (⟨1, ([] : List ByteArray), y154, 0⟩ : S25), (⟨1, ([] : List ByteArray), y157, 0⟩ : S25), (⟨1, ([] : List ByteArray), (([(⟨28, 2147483648, 0⟩ : S41)] : List (S41))), 0⟩ : S25)] : List (S25))) 0) = some r := by first | (rw [hy157]; with_reducible exact H) | (have H2_ := (Option.bind_some _ _).symm.trans H; rw [hy157]; with_reducible exact H2_) | (have H2_ := (Option.bind_some _ _).symm.trans H; with_reducible exact H2_) | with_reducible exact H | (rw [hy157]; exact H) | exact H
         have Ny157 := Aside0.mk hy157
         clear hy157
         obtain ⟨y160, hy160⟩ : ∃ y_ : List (S41), y_ = (([(⟨28, 2147483648, 0⟩ : S41)] : List (S41))) := ⟨_, rfl⟩
         replace H : (vouchlaw21_CodeKnown.l0 kj59 x4_1 x5_13 x6_37 x10_59 (([(⟨0, ([] : List ByteArray), y142, 0⟩ : S25), (⟨3, ([] : List ByteArray), ([] : List (S41)), 0⟩ : S25), (⟨1, ([] : List ByteArray), ([] : List (S41)), (-1)⟩ : S25), (⟨1, ([] : List ByteArray), ([] : List (S41)), 2147483648⟩ : S25), (⟨1, ([] : List ByteArray), y145, 0⟩ : S25), (⟨1, ([] : List ByteArray), y148, 0⟩ : S25), (⟨1, ([] : List ByteArray), y151, 0⟩ : S25), (⟨1, ([] : List ByteArray), y154, 0⟩ : S25), (⟨1, ([] : List ByteArray), y157, 0⟩ : S25), (⟨1, ([] : List ByteArray), y160, 0⟩ : S25)] : List (S25))) 0) = some r := by first | (rw [hy160]; with_reducible exact H) | (have H2_ := (Option.bind_some _ _).symm.trans H; rw [hy160]; with_reducible exact H2_) | (have H2_ := (Option.bind_some _ _).symm.trans H; with_reducible exact H2_) | with_reducible exact H | (rw [hy160]; exact H) | exact H
         have Ny160 := Aside0.mk hy160
         clear hy160
         obtain ⟨y163, hy163⟩ : ∃ y_ : List (S25), y_ = (([(⟨0, ([] : List ByteArray), y142, 0⟩ : S25), (⟨3, ([] : List ByteArray), ([] : List (S41)), 0⟩ : S25), (⟨1, ([] : List ByteArray), ([] : List (S41)), (-1)⟩ : S25), (⟨1, ([] : List ByteArray), ([] : List (S41)), 2147483648⟩ : S25), (⟨1, ([] : List ByteArray), y145, 0⟩ : S25), (⟨1, ([] : List ByteArray), y148, 0⟩ : S25), (⟨1, ([] : List ByteArray), y151, 0⟩ : S25), (⟨1, ([] : List ByteArray), y154, 0⟩ : S25), (⟨1, ([] : List ByteArray), y157, 0⟩ : S25), (⟨1, ([] : List ByteArray), y160, 0⟩ : S25)] : List (S25))) := ⟨_, rfl⟩
         replace H : (vouchlaw21_CodeKnown.l0 kj59 x4_1 x5_13 x6_37 x10_59 y163 0) = some r := by first | (rw [hy163]; with_reducible exact H) | (have H2_ := (Option.bind_some _ _).symm.trans H; rw [hy163]; with_reducible exact H2_) | (have H2_ := (Option.bind_some _ _).symm.trans H; with_reducible exact H2_) | with_reducible exact H | (rw [hy163]; exact H) | exact H
         have Ny163 := Aside0.mk hy163
         clear hy163
         have H' := Aside0.mk H
         clear H
         go_wp2_with (first | ((with_reducible refine gate_dst (N := 90) rfl ?_); (try (refine gate_guard (by rfl) ?_; dsimp only)); refine Kd.R_lit k41 _ 41 ?hg (N := 90) ?hd (xs := ([(⟨33, 0, 0⟩ : S41)] : List (S41))) (inner := [.int .u8 33, .int .i64 0, .int .i64 0]) (ok := fun _ => True) (okp := fun _ => True) ?hr ?hp (fun _ hk => hk) trivial (Below.refl _ _) (Nat.le_refl _) (by simp) ?_; (case hd => rfl); (case hg => rfl); (case hr => first | (go_simp; done) | (go_simp; rfl)); (case hp => exact (Reps.c3 (show Kd.M k41 _ _ _ (⟨33, 0, 0⟩ : S41) [.int .u8 33, .int .i64 0, .int .i64 0] from (k41_mkM _ _ _ (⟨33, 0, 0⟩ : S41) )) (Reps.none _ _))); intro v143 w71 ho72 hb hg_ hnew_; clear hg_ hnew_; (first | rw [← Ny142.out] at ho72 | (simp only [Int.reduceToNat] at ho72; rw [← Ny142.out] at ho72)); have n0_ := Aside0.mk (Kd.R_below (kr HO_108001) hb); have n1_ := Aside0.mk (Kd.R_elder' (kr HO_108002) (Kd.R_base ho72) hb); have n2_ := Aside0.mk (Kd.R_below (kr HO_142001) hb); have n3_ := Aside0.mk (Kd.R_elder' (kr HO_142002) (Kd.R_base ho72) hb); have n4_ := Aside0.mk (Kd.R_lower (Kd.R_new' (Kd.R_new' ho72 (Kd.R_lt (kr HO_108002))) (Kd.R_lt (kr HO_142002))) (below_size (bl2 HB GE107 GE141))); have n5_ := Aside0.mk (blk_below (g := gb107) (o := .cells #[.int .u8 2, .slice Ao8 y101.length co8, .slice Ao7 y104.length co7, .int .i64 300] 25 (0, 0)) (bk BK107) hb); have n6_ := Aside0.mk (blk_below (g := gb141) (o := .cells #[.int .u8 t131, .slice Ao66 t132.length co66, .slice Ao67 t135.length co67, .int .i64 t138] 25 (0, 0)) (bk BK141) hb); have n7_ := Aside0.mk (below_step (bl2 HB GE107 GE141) hb); clear HO_108001; clear HO_108002; clear HO_142001; clear HO_142002; clear BK107; clear BK141; clear HB; have HO_108001 := n0_; have HO_108002 := n1_; have HO_142001 := n2_; have HO_142002 := n3_; have HO144 := n4_; have BK107 := n5_; have BK141 := n6_; have HB := n7_; clear n0_ n1_ n2_ n3_ n4_ n5_ n6_ n7_; clear hb ho72; obtain ⟨Ao73, co73, eo73⟩ := Kd.R_slice HO144.out; subst eo73) | ((with_reducible refine gate_dst (N := 96) rfl ?_); (try (refine gate_guard (by rfl) ?_; dsimp only)); refine Kd.R_lit k41 _ 41 ?hg (N := 96) ?hd (xs := ([(⟨33, 1, 0⟩ : S41)] : List (S41))) (inner := [.int .u8 33, .int .i64 1, .int .i64 0]) (ok := fun _ => True) (okp := fun _ => True) ?hr ?hp (fun _ hk => hk) trivial (Below.refl _ _) (Nat.le_refl _) (by simp) ?_; (case hd => rfl); (case hg => rfl); (case hr => first | (go_simp; done) | (go_simp; rfl)); (case hp => exact (Reps.c3 (show Kd.M k41 _ _ _ (⟨33, 1, 0⟩ : S41) [.int .u8 33, .int .i64 1, .int .i64 0] from (k41_mkM _ _ _ (⟨33, 1, 0⟩ : S41) )) (Reps.none _ _))); intro v146 w74 ho75 hb hg_ hnew_; clear hg_ hnew_; (first | rw [← Ny145.out] at ho75 | (simp only [Int.reduceToNat] at ho75; rw [← Ny145.out] at ho75)); have n0_ := Aside0.mk (Kd.R_below (kr HO_108001) hb); have n1_ := Aside0.mk (Kd.R_elder' (kr HO_108002) (Kd.R_base ho75) hb); have n2_ := Aside0.mk (Kd.R_below (kr HO_142001) hb); have n3_ := Aside0.mk (Kd.R_elder' (kr HO_142002) (Kd.R_base ho75) hb); have n4_ := Aside0.mk (Kd.R_elder' (kr HO144) (Kd.R_base ho75) hb); have n5_ := Aside0.mk (Kd.R_lower (Kd.R_new' (Kd.R_new' (Kd.R_new' ho75 (Kd.R_lt (kr HO_108002))) (Kd.R_lt (kr HO_142002))) (Kd.R_lt (kr HO144))) (below_size (bl2 HB GE107 GE141))); have n6_ := Aside0.mk (blk_below (g := gb107) (o := .cells #[.int .u8 2, .slice Ao8 y101.length co8, .slice Ao7 y104.length co7, .int .i64 300] 25 (0, 0)) (bk BK107) hb); have n7_ := Aside0.mk (blk_below (g := gb141) (o := .cells #[.int .u8 t131, .slice Ao66 t132.length co66, .slice Ao67 t135.length co67, .int .i64 t138] 25 (0, 0)) (bk BK141) hb); have n8_ := Aside0.mk (below_step (bl2 HB GE107 GE141) hb); clear HO_108001; clear HO_108002; clear HO_142001; clear HO_142002; clear HO144; clear BK107; clear BK141; clear HB; have HO_108001 := n0_; have HO_108002 := n1_; have HO_142001 := n2_; have HO_142002 := n3_; have HO144 := n4_; have HO147 := n5_; have BK107 := n6_; have BK141 := n7_; have HB := n8_; clear n0_ n1_ n2_ n3_ n4_ n5_ n6_ n7_ n8_; clear hb ho75; obtain ⟨Ao76, co76, eo76⟩ := Kd.R_slice HO147.out; subst eo76) | ((with_reducible refine gate_dst (N := 99) rfl ?_); (try (refine gate_guard (by rfl) ?_; dsimp only)); refine Kd.R_lit k41 _ 41 ?hg (N := 99) ?hd (xs := ([(⟨1, 0, 1⟩ : S41)] : List (S41))) (inner := [.int .u8 1, .int .i64 0, .int .i64 1]) (ok := fun _ => True) (okp := fun _ => True) ?hr ?hp (fun _ hk => hk) trivial (Below.refl _ _) (Nat.le_refl _) (by simp) ?_; (case hd => rfl); (case hg => rfl); (case hr => first | (go_simp; done) | (go_simp; rfl)); (case hp => exact (Reps.c3 (show Kd.M k41 _ _ _ (⟨1, 0, 1⟩ : S41) [.int .u8 1, .int .i64 0, .int .i64 1] from (k41_mkM _ _ _ (⟨1, 0, 1⟩ : S41) )) (Reps.none _ _))); intro v149 w77 ho78 hb hg_ hnew_; clear hg_ hnew_; (first | rw [← Ny148.out] at ho78 | (simp only [Int.reduceToNat] at ho78; rw [← Ny148.out] at ho78)); have n0_ := Aside0.mk (Kd.R_below (kr HO_108001) hb); have n1_ := Aside0.mk (Kd.R_elder' (kr HO_108002) (Kd.R_base ho78) hb); have n2_ := Aside0.mk (Kd.R_below (kr HO_142001) hb); have n3_ := Aside0.mk (Kd.R_elder' (kr HO_142002) (Kd.R_base ho78) hb); have n4_ := Aside0.mk (Kd.R_elder' (kr HO144) (Kd.R_base ho78) hb); have n5_ := Aside0.mk (Kd.R_elder' (kr HO147) (Kd.R_base ho78) hb); have n6_ := Aside0.mk (Kd.R_lower (Kd.R_new' (Kd.R_new' (Kd.R_new' (Kd.R_new' ho78 (Kd.R_lt (kr HO_108002))) (Kd.R_lt (kr HO_142002))) (Kd.R_lt (kr HO144))) (Kd.R_lt (kr HO147))) (below_size (bl2 HB GE107 GE141))); have n7_ := Aside0.mk (blk_below (g := gb107) (o := .cells #[.int .u8 2, .slice Ao8 y101.length co8, .slice Ao7 y104.length co7, .int .i64 300] 25 (0, 0)) (bk BK107) hb); have n8_ := Aside0.mk (blk_below (g := gb141) (o := .cells #[.int .u8 t131, .slice Ao66 t132.length co66, .slice Ao67 t135.length co67, .int .i64 t138] 25 (0, 0)) (bk BK141) hb); have n9_ := Aside0.mk (below_step (bl2 HB GE107 GE141) hb); clear HO_108001; clear HO_108002; clear HO_142001; clear HO_142002; clear HO144; clear HO147; clear BK107; clear BK141; clear HB; have HO_108001 := n0_; have HO_108002 := n1_; have HO_142001 := n2_; have HO_142002 := n3_; have HO144 := n4_; have HO147 := n5_; have HO150 := n6_; have BK107 := n7_; have BK141 := n8_; have HB := n9_; clear n0_ n1_ n2_ n3_ n4_ n5_ n6_ n7_ n8_ n9_; clear hb ho78; obtain ⟨Ao79, co79, eo79⟩ := Kd.R_slice HO150.out; subst eo79) | ((with_reducible refine gate_dst (N := 102) rfl ?_); (try (refine gate_guard (by rfl) ?_; dsimp only)); refine Kd.R_lit k41 _ 41 ?hg (N := 102) ?hd (xs := ([(⟨0, 0, 0⟩ : S41)] : List (S41))) (inner := [.int .u8 0, .int .i64 0, .int .i64 0]) (ok := fun _ => True) (okp := fun _ => True) ?hr ?hp (fun _ hk => hk) trivial (Below.refl _ _) (Nat.le_refl _) (by simp) ?_; (case hd => rfl); (case hg => rfl); (case hr => first | (go_simp; done) | (go_simp; rfl)); (case hp => exact (Reps.c3 (show Kd.M k41 _ _ _ (⟨0, 0, 0⟩ : S41) [.int .u8 0, .int .i64 0, .int .i64 0] from (k41_mkM _ _ _ (⟨0, 0, 0⟩ : S41) )) (Reps.none _ _))); intro v152 w80 ho81 hb hg_ hnew_; clear hg_ hnew_; (first | rw [← Ny151.out] at ho81 | (simp only [Int.reduceToNat] at ho81; rw [← Ny151.out] at ho81)); have n0_ := Aside0.mk (Kd.R_below (kr HO_108001) hb); have n1_ := Aside0.mk (Kd.R_elder' (kr HO_108002) (Kd.R_base ho81) hb); have n2_ := Aside0.mk (Kd.R_below (kr HO_142001) hb); have n3_ := Aside0.mk (Kd.R_elder' (kr HO_142002) (Kd.R_base ho81) hb); have n4_ := Aside0.mk (Kd.R_elder' (kr HO144) (Kd.R_base ho81) hb); have n5_ := Aside0.mk (Kd.R_elder' (kr HO147) (Kd.R_base ho81) hb); have n6_ := Aside0.mk (Kd.R_elder' (kr HO150) (Kd.R_base ho81) hb); have n7_ := Aside0.mk (Kd.R_lower (Kd.R_new' (Kd.R_new' (Kd.R_new' (Kd.R_new' (Kd.R_new' ho81 (Kd.R_lt (kr HO_108002))) (Kd.R_lt (kr HO_142002))) (Kd.R_lt (kr HO144))) (Kd.R_lt (kr HO147))) (Kd.R_lt (kr HO150))) (below_size (bl2 HB GE107 GE141))); have n8_ := Aside0.mk (blk_below (g := gb107) (o := .cells #[.int .u8 2, .slice Ao8 y101.length co8, .slice Ao7 y104.length co7, .int .i64 300] 25 (0, 0)) (bk BK107) hb); have n9_ := Aside0.mk (blk_below (g := gb141) (o := .cells #[.int .u8 t131, .slice Ao66 t132.length co66, .slice Ao67 t135.length co67, .int .i64 t138] 25 (0, 0)) (bk BK141) hb); have n10_ := Aside0.mk (below_step (bl2 HB GE107 GE141) hb); clear HO_108001; clear HO_108002; clear HO_142001; clear HO_142002; clear HO144; clear HO147; clear HO150; clear BK107; clear BK141; clear HB; have HO_108001 := n0_; have HO_108002 := n1_; have HO_142001 := n2_; have HO_142002 := n3_; have HO144 := n4_; have HO147 := n5_; have HO150 := n6_; have HO153 := n7_; have BK107 := n8_; have BK141 := n9_; have HB := n10_; clear n0_ n1_ n2_ n3_ n4_ n5_ n6_ n7_ n8_ n9_ n10_; clear hb ho81; obtain ⟨Ao82, co82, eo82⟩ := Kd.R_slice HO153.out; subst eo82) | ((with_reducible refine gate_dst (N := 105) rfl ?_); (try (refine gate_guard (by rfl) ?_; dsimp only)); refine Kd.R_lit k41 _ 41 ?hg (N := 105) ?hd (xs := ([(⟨39, 0, 0⟩ : S41)] : List (S41))) (inner := [.int .u8 39, .int .i64 0, .int .i64 0]) (ok := fun _ => True) (okp := fun _ => True) ?hr ?hp (fun _ hk => hk) trivial (Below.refl _ _) (Nat.le_refl _) (by simp) ?_; (case hd => rfl); (case hg => rfl); (case hr => first | (go_simp; done) | (go_simp; rfl)); (case hp => exact (Reps.c3 (show Kd.M k41 _ _ _ (⟨39, 0, 0⟩ : S41) [.int .u8 39, .int .i64 0, .int .i64 0] from (k41_mkM _ _ _ (⟨39, 0, 0⟩ : S41) )) (Reps.none _ _))); intro v155 w83 ho84 hb hg_ hnew_; clear hg_ hnew_; (first | rw [← Ny154.out] at ho84 | (simp only [Int.reduceToNat] at ho84; rw [← Ny154.out] at ho84)); have n0_ := Aside0.mk (Kd.R_below (kr HO_108001) hb); have n1_ := Aside0.mk (Kd.R_elder' (kr HO_108002) (Kd.R_base ho84) hb); have n2_ := Aside0.mk (Kd.R_below (kr HO_142001) hb); have n3_ := Aside0.mk (Kd.R_elder' (kr HO_142002) (Kd.R_base ho84) hb); have n4_ := Aside0.mk (Kd.R_elder' (kr HO144) (Kd.R_base ho84) hb); have n5_ := Aside0.mk (Kd.R_elder' (kr HO147) (Kd.R_base ho84) hb); have n6_ := Aside0.mk (Kd.R_elder' (kr HO150) (Kd.R_base ho84) hb); have n7_ := Aside0.mk (Kd.R_elder' (kr HO153) (Kd.R_base ho84) hb); have n8_ := Aside0.mk (Kd.R_lower (Kd.R_new' (Kd.R_new' (Kd.R_new' (Kd.R_new' (Kd.R_new' (Kd.R_new' ho84 (Kd.R_lt (kr HO_108002))) (Kd.R_lt (kr HO_142002))) (Kd.R_lt (kr HO144))) (Kd.R_lt (kr HO147))) (Kd.R_lt (kr HO150))) (Kd.R_lt (kr HO153))) (below_size (bl2 HB GE107 GE141))); have n9_ := Aside0.mk (blk_below (g := gb107) (o := .cells #[.int .u8 2, .slice Ao8 y101.length co8, .slice Ao7 y104.length co7, .int .i64 300] 25 (0, 0)) (bk BK107) hb); have n10_ := Aside0.mk (blk_below (g := gb141) (o := .cells #[.int .u8 t131, .slice Ao66 t132.length co66, .slice Ao67 t135.length co67, .int .i64 t138] 25 (0, 0)) (bk BK141) hb); have n11_ := Aside0.mk (below_step (bl2 HB GE107 GE141) hb); clear HO_108001; clear HO_108002; clear HO_142001; clear HO_142002; clear HO144; clear HO147; clear HO150; clear HO153; clear BK107; clear BK141; clear HB; have HO_108001 := n0_; have HO_108002 := n1_; have HO_142001 := n2_; have HO_142002 := n3_; have HO144 := n4_; have HO147 := n5_; have HO150 := n6_; have HO153 := n7_; have HO156 := n8_; have BK107 := n9_; have BK141 := n10_; have HB := n11_; clear n0_ n1_ n2_ n3_ n4_ n5_ n6_ n7_ n8_ n9_ n10_ n11_; clear hb ho84; obtain ⟨Ao85, co85, eo85⟩ := Kd.R_slice HO156.out; subst eo85) | ((with_reducible refine gate_dst (N := 108) rfl ?_); (try (refine gate_guard (by rfl) ?_; dsimp only)); refine Kd.R_lit k41 _ 41 ?hg (N := 108) ?hd (xs := ([(⟨37, (-1), 0⟩ : S41)] : List (S41))) (inner := [.int .u8 37, .int .i64 (-1), .int .i64 0]) (ok := fun _ => True) (okp := fun _ => True) ?hr ?hp (fun _ hk => hk) trivial (Below.refl _ _) (Nat.le_refl _) (by simp) ?_; (case hd => rfl); (case hg => rfl); (case hr => first | (go_simp; done) | (go_simp; rfl)); (case hp => exact (Reps.c3 (show Kd.M k41 _ _ _ (⟨37, (-1), 0⟩ : S41) [.int .u8 37, .int .i64 (-1), .int .i64 0] from (k41_mkM _ _ _ (⟨37, (-1), 0⟩ : S41) )) (Reps.none _ _))); intro v158 w86 ho87 hb hg_ hnew_; clear hg_ hnew_; (first | rw [← Ny157.out] at ho87 | (simp only [Int.reduceToNat] at ho87; rw [← Ny157.out] at ho87)); have n0_ := Aside0.mk (Kd.R_below (kr HO_108001) hb); have n1_ := Aside0.mk (Kd.R_elder' (kr HO_108002) (Kd.R_base ho87) hb); have n2_ := Aside0.mk (Kd.R_below (kr HO_142001) hb); have n3_ := Aside0.mk (Kd.R_elder' (kr HO_142002) (Kd.R_base ho87) hb); have n4_ := Aside0.mk (Kd.R_elder' (kr HO144) (Kd.R_base ho87) hb); have n5_ := Aside0.mk (Kd.R_elder' (kr HO147) (Kd.R_base ho87) hb); have n6_ := Aside0.mk (Kd.R_elder' (kr HO150) (Kd.R_base ho87) hb); have n7_ := Aside0.mk (Kd.R_elder' (kr HO153) (Kd.R_base ho87) hb); have n8_ := Aside0.mk (Kd.R_elder' (kr HO156) (Kd.R_base ho87) hb); have n9_ := Aside0.mk (Kd.R_lower (Kd.R_new' (Kd.R_new' (Kd.R_new' (Kd.R_new' (Kd.R_new' (Kd.R_new' (Kd.R_new' ho87 (Kd.R_lt (kr HO_108002))) (Kd.R_lt (kr HO_142002))) (Kd.R_lt (kr HO144))) (Kd.R_lt (kr HO147))) (Kd.R_lt (kr HO150))) (Kd.R_lt (kr HO153))) (Kd.R_lt (kr HO156))) (below_size (bl2 HB GE107 GE141))); have n10_ := Aside0.mk (blk_below (g := gb107) (o := .cells #[.int .u8 2, .slice Ao8 y101.length co8, .slice Ao7 y104.length co7, .int .i64 300] 25 (0, 0)) (bk BK107) hb); have n11_ := Aside0.mk (blk_below (g := gb141) (o := .cells #[.int .u8 t131, .slice Ao66 t132.length co66, .slice Ao67 t135.length co67, .int .i64 t138] 25 (0, 0)) (bk BK141) hb); have n12_ := Aside0.mk (below_step (bl2 HB GE107 GE141) hb); clear HO_108001; clear HO_108002; clear HO_142001; clear HO_142002; clear HO144; clear HO147; clear HO150; clear HO153; clear HO156; clear BK107; clear BK141; clear HB; have HO_108001 := n0_; have HO_108002 := n1_; have HO_142001 := n2_; have HO_142002 := n3_; have HO144 := n4_; have HO147 := n5_; have HO150 := n6_; have HO153 := n7_; have HO156 := n8_; have HO159 := n9_; have BK107 := n10_; have BK141 := n11_; have HB := n12_; clear n0_ n1_ n2_ n3_ n4_ n5_ n6_ n7_ n8_ n9_ n10_ n11_ n12_; clear hb ho87; obtain ⟨Ao88, co88, eo88⟩ := Kd.R_slice HO159.out; subst eo88) | ((with_reducible refine gate_dst (N := 111) rfl ?_); (try (refine gate_guard (by rfl) ?_; dsimp only)); refine Kd.R_lit k41 _ 41 ?hg (N := 111) ?hd (xs := ([(⟨28, 2147483648, 0⟩ : S41)] : List (S41))) (inner := [.int .u8 28, .int .i64 2147483648, .int .i64 0]) (ok := fun _ => True) (okp := fun _ => True) ?hr ?hp (fun _ hk => hk) trivial (Below.refl _ _) (Nat.le_refl _) (by simp) ?_; (case hd => rfl); (case hg => rfl); (case hr => first | (go_simp; done) | (go_simp; rfl)); (case hp => exact (Reps.c3 (show Kd.M k41 _ _ _ (⟨28, 2147483648, 0⟩ : S41) [.int .u8 28, .int .i64 2147483648, .int .i64 0] from (k41_mkM _ _ _ (⟨28, 2147483648, 0⟩ : S41) )) (Reps.none _ _))); intro v161 w89 ho90 hb hg_ hnew_; clear hg_ hnew_; (first | rw [← Ny160.out] at ho90 | (simp only [Int.reduceToNat] at ho90; rw [← Ny160.out] at ho90)); have n0_ := Aside0.mk (Kd.R_below (kr HO_108001) hb); have n1_ := Aside0.mk (Kd.R_elder' (kr HO_108002) (Kd.R_base ho90) hb); have n2_ := Aside0.mk (Kd.R_below (kr HO_142001) hb); have n3_ := Aside0.mk (Kd.R_elder' (kr HO_142002) (Kd.R_base ho90) hb); have n4_ := Aside0.mk (Kd.R_elder' (kr HO144) (Kd.R_base ho90) hb); have n5_ := Aside0.mk (Kd.R_elder' (kr HO147) (Kd.R_base ho90) hb); have n6_ := Aside0.mk (Kd.R_elder' (kr HO150) (Kd.R_base ho90) hb); have n7_ := Aside0.mk (Kd.R_elder' (kr HO153) (Kd.R_base ho90) hb); have n8_ := Aside0.mk (Kd.R_elder' (kr HO156) (Kd.R_base ho90) hb); have n9_ := Aside0.mk (Kd.R_elder' (kr HO159) (Kd.R_base ho90) hb); have n10_ := Aside0.mk (Kd.R_lower (Kd.R_new' (Kd.R_new' (Kd.R_new' (Kd.R_new' (Kd.R_new' (Kd.R_new' (Kd.R_new' (Kd.R_new' ho90 (Kd.R_lt (kr HO_108002))) (Kd.R_lt (kr HO_142002))) (Kd.R_lt (kr HO144))) (Kd.R_lt (kr HO147))) (Kd.R_lt (kr HO150))) (Kd.R_lt (kr HO153))) (Kd.R_lt (kr HO156))) (Kd.R_lt (kr HO159))) (below_size (bl2 HB GE107 GE141))); have n11_ := Aside0.mk (blk_below (g := gb107) (o := .cells #[.int .u8 2, .slice Ao8 y101.length co8, .slice Ao7 y104.length co7, .int .i64 300] 25 (0, 0)) (bk BK107) hb); have n12_ := Aside0.mk (blk_below (g := gb141) (o := .cells #[.int .u8 t131, .slice Ao66 t132.length co66, .slice Ao67 t135.length co67, .int .i64 t138] 25 (0, 0)) (bk BK141) hb); have n13_ := Aside0.mk (below_step (bl2 HB GE107 GE141) hb); clear HO_108001; clear HO_108002; clear HO_142001; clear HO_142002; clear HO144; clear HO147; clear HO150; clear HO153; clear HO156; clear HO159; clear BK107; clear BK141; clear HB; have HO_108001 := n0_; have HO_108002 := n1_; have HO_142001 := n2_; have HO_142002 := n3_; have HO144 := n4_; have HO147 := n5_; have HO150 := n6_; have HO153 := n7_; have HO156 := n8_; have HO159 := n9_; have HO162 := n10_; have BK107 := n11_; have BK141 := n12_; have HB := n13_; clear n0_ n1_ n2_ n3_ n4_ n5_ n6_ n7_ n8_ n9_ n10_ n11_ n12_ n13_; clear hb ho90; obtain ⟨Ao91, co91, eo91⟩ := Kd.R_slice HO162.out; subst eo91) | ((with_reducible refine gate_dst (N := 113) rfl ?_); (try (refine gate_guard (by rfl) ?_; dsimp only)); refine Kd.N_lit k25 _ 25 ?hg (N' := 113) ?hd (xs := ([(⟨0, ([] : List ByteArray), y142, 0⟩ : S25), (⟨3, ([] : List ByteArray), ([] : List (S41)), 0⟩ : S25), (⟨1, ([] : List ByteArray), ([] : List (S41)), (-1)⟩ : S25), (⟨1, ([] : List ByteArray), ([] : List (S41)), 2147483648⟩ : S25), (⟨1, ([] : List ByteArray), y145, 0⟩ : S25), (⟨1, ([] : List ByteArray), y148, 0⟩ : S25), (⟨1, ([] : List ByteArray), y151, 0⟩ : S25), (⟨1, ([] : List ByteArray), y154, 0⟩ : S25), (⟨1, ([] : List ByteArray), y157, 0⟩ : S25), (⟨1, ([] : List ByteArray), y160, 0⟩ : S25)] : List (S25))) (inner := [.int .u8 0, .slice none 0 0, .slice Ao73 y142.length co73, .int .i64 0, .int .u8 3, .slice none 0 0, .slice none 0 0, .int .i64 0, .int .u8 1, .slice none 0 0, .slice none 0 0, .int .i64 (-1), .int .u8 1, .slice none 0 0, .slice none 0 0, .int .i64 2147483648, .int .u8 1, .slice none 0 0, .slice Ao76 y145.length co76, .int .i64 0, .int .u8 1, .slice none 0 0, .slice Ao79 y148.length co79, .int .i64 0, .int .u8 1, .slice none 0 0, .slice Ao82 y151.length co82, .int .i64 0, .int .u8 1, .slice none 0 0, .slice Ao85 y154.length co85, .int .i64 0, .int .u8 1, .slice none 0 0, .slice Ao88 y157.length co88, .int .i64 0, .int .u8 1, .slice none 0 0, .slice Ao91 y160.length co91, .int .i64 0]) (ok := (fun k_ => some k_ ≠ (.slice Ao8 y101.length co8 : Value).ownBlock ∧ some k_ ≠ (.slice Ao7 y104.length co7 : Value).ownBlock ∧ some k_ ≠ (.slice Ao66 t132.length co66 : Value).ownBlock ∧ some k_ ≠ (.slice Ao67 t135.length co67 : Value).ownBlock ∧ k_ ≠ gb107 ∧ k_ ≠ gb141)) (okp := (fun k_ => some k_ ≠ (.slice Ao8 y101.length co8 : Value).ownBlock ∧ some k_ ≠ (.slice Ao7 y104.length co7 : Value).ownBlock ∧ some k_ ≠ (.slice Ao66 t132.length co66 : Value).ownBlock ∧ some k_ ≠ (.slice Ao67 t135.length co67 : Value).ownBlock ∧ k_ ≠ gb107 ∧ k_ ≠ gb141)) ?hr ?hp (fun _ hk => hk) ((show ∀ k_, w89.heap.size ≤ k_ → (fun k_ => some k_ ≠ (.slice Ao8 y101.length co8 : Value).ownBlock ∧ some k_ ≠ (.slice Ao7 y104.length co7 : Value).ownBlock ∧ some k_ ≠ (.slice Ao66 t132.length co66 : Value).ownBlock ∧ some k_ ≠ (.slice Ao67 t135.length co67 : Value).ownBlock ∧ k_ ≠ gb107 ∧ k_ ≠ gb141) k_ from fun k_ hk => ⟨Kd.fresh' (Kd.R_lt (kr HO_108001)) k_ hk, Kd.fresh' (Kd.R_lt (kr HO_108002)) k_ hk, Kd.fresh' (Kd.R_lt (kr HO_142001)) k_ hk, Kd.fresh' (Kd.R_lt (kr HO_142002)) k_ hk, Kd.freshB (g := gb107) (o := .cells #[.int .u8 2, .slice Ao8 y101.length co8, .slice Ao7 y104.length co7, .int .i64 300] 25 (0, 0)) (bk BK107) k_ hk, Kd.freshB (g := gb141) (o := .cells #[.int .u8 t131, .slice Ao66 t132.length co66, .slice Ao67 t135.length co67, .int .i64 t138] 25 (0, 0)) (bk BK141) k_ hk⟩) _ (Nat.le_refl _)) (Below.refl _ _) (Nat.le_refl _) (by simp) ?_; (case hd => rfl); (case hg => rfl); (case hr => first | (go_simp; done) | (go_simp; rfl)); (case hp => exact (Reps.c4 (show Kd.FK k25 _ _ (⟨0, ([] : List ByteArray), y142, 0⟩ : S25) [.int .u8 0, .slice none 0 0, .slice Ao73 y142.length co73, .int .i64 0] from (k25_mkF _ _ (⟨0, ([] : List ByteArray), y142, 0⟩ : S25) (Nat.le_refl _) (Kd.F_nil _ _ _) (Kd.R_reads' (Kd.R_mono (ok' := (fun k_ => some k_ ≠ (.slice Ao8 y101.length co8 : Value).ownBlock ∧ some k_ ≠ (.slice Ao7 y104.length co7 : Value).ownBlock ∧ some k_ ≠ (.slice Ao66 t132.length co66 : Value).ownBlock ∧ some k_ ≠ (.slice Ao67 t135.length co67 : Value).ownBlock ∧ k_ ≠ gb107 ∧ k_ ≠ gb141)) (Kd.R_types (Kd.R_types (Kd.R_apart' (Kd.R_apart' (HO144.out) (Kd.R_typed HO_108001.out) (by decide)) (Kd.R_typed HO_142001.out) (by decide)) BK107.out (by decide)) BK141.out (by decide)) (fun k_ hk => ⟨hk.1.1.1.2, ⟨hk.1.1.1.1.1.1.1.1.1.1.1.2, ⟨hk.1.1.2, ⟨hk.1.1.1.1.1.1.1.1.1.1.2, ⟨hk.1.2, hk.2⟩⟩⟩⟩⟩))).2.1 (Kd.R_F (Kd.R_mono (ok' := (fun k_ => some k_ ≠ (.slice Ao8 y101.length co8 : Value).ownBlock ∧ some k_ ≠ (.slice Ao7 y104.length co7 : Value).ownBlock ∧ some k_ ≠ (.slice Ao66 t132.length co66 : Value).ownBlock ∧ some k_ ≠ (.slice Ao67 t135.length co67 : Value).ownBlock ∧ k_ ≠ gb107 ∧ k_ ≠ gb141)) (Kd.R_types (Kd.R_types (Kd.R_apart' (Kd.R_apart' (HO144.out) (Kd.R_typed HO_108001.out) (by decide)) (Kd.R_typed HO_142001.out) (by decide)) BK107.out (by decide)) BK141.out (by decide)) (fun k_ hk => ⟨hk.1.1.1.2, ⟨hk.1.1.1.1.1.1.1.1.1.1.1.2, ⟨hk.1.1.2, ⟨hk.1.1.1.1.1.1.1.1.1.1.2, ⟨hk.1.2, hk.2⟩⟩⟩⟩⟩))))) (Reps.c4 (show Kd.FK k25 _ _ (⟨3, ([] : List ByteArray), ([] : List (S41)), 0⟩ : S25) [.int .u8 3, .slice none 0 0, .slice none 0 0, .int .i64 0] from (k25_mkF _ _ (⟨3, ([] : List ByteArray), ([] : List (S41)), 0⟩ : S25) (Nat.le_refl _) (Kd.F_nil _ _ _) (Nat.le_refl _) (Kd.F_nil _ _ _))) (Reps.c4 (show Kd.FK k25 _ _ (⟨1, ([] : List ByteArray), ([] : List (S41)), (-1)⟩ : S25) [.int .u8 1, .slice none 0 0, .slice none 0 0, .int .i64 (-1)] from (k25_mkF _ _ (⟨1, ([] : List ByteArray), ([] : List (S41)), (-1)⟩ : S25) (Nat.le_refl _) (Kd.F_nil _ _ _) (Nat.le_refl _) (Kd.F_nil _ _ _))) (Reps.c4 (show Kd.FK k25 _ _ (⟨1, ([] : List ByteArray), ([] : List (S41)), 2147483648⟩ : S25) [.int .u8 1, .slice none 0 0, .slice none 0 0, .int .i64 2147483648] from (k25_mkF _ _ (⟨1, ([] : List ByteArray), ([] : List (S41)), 2147483648⟩ : S25) (Nat.le_refl _) (Kd.F_nil _ _ _) (Nat.le_refl _) (Kd.F_nil _ _ _))) (Reps.c4 (show Kd.FK k25 _ _ (⟨1, ([] : List ByteArray), y145, 0⟩ : S25) [.int .u8 1, .slice none 0 0, .slice Ao76 y145.length co76, .int .i64 0] from (k25_mkF _ _ (⟨1, ([] : List ByteArray), y145, 0⟩ : S25) (Nat.le_refl _) (Kd.F_nil _ _ _) (Kd.R_reads' (Kd.R_mono (ok' := (fun k_ => some k_ ≠ (.slice Ao8 y101.length co8 : Value).ownBlock ∧ some k_ ≠ (.slice Ao7 y104.length co7 : Value).ownBlock ∧ some k_ ≠ (.slice Ao66 t132.length co66 : Value).ownBlock ∧ some k_ ≠ (.slice Ao67 t135.length co67 : Value).ownBlock ∧ k_ ≠ gb107 ∧ k_ ≠ gb141)) (Kd.R_types (Kd.R_types (Kd.R_apart' (Kd.R_apart' (HO147.out) (Kd.R_typed HO_108001.out) (by decide)) (Kd.R_typed HO_142001.out) (by decide)) BK107.out (by decide)) BK141.out (by decide)) (fun k_ hk => ⟨hk.1.1.1.2, ⟨hk.1.1.1.1.1.1.1.1.1.1.1.2, ⟨hk.1.1.2, ⟨hk.1.1.1.1.1.1.1.1.1.1.2, ⟨hk.1.2, hk.2⟩⟩⟩⟩⟩))).2.1 (Kd.R_F (Kd.R_mono (ok' := (fun k_ => some k_ ≠ (.slice Ao8 y101.length co8 : Value).ownBlock ∧ some k_ ≠ (.slice Ao7 y104.length co7 : Value).ownBlock ∧ some k_ ≠ (.slice Ao66 t132.length co66 : Value).ownBlock ∧ some k_ ≠ (.slice Ao67 t135.length co67 : Value).ownBlock ∧ k_ ≠ gb107 ∧ k_ ≠ gb141)) (Kd.R_types (Kd.R_types (Kd.R_apart' (Kd.R_apart' (HO147.out) (Kd.R_typed HO_108001.out) (by decide)) (Kd.R_typed HO_142001.out) (by decide)) BK107.out (by decide)) BK141.out (by decide)) (fun k_ hk => ⟨hk.1.1.1.2, ⟨hk.1.1.1.1.1.1.1.1.1.1.1.2, ⟨hk.1.1.2, ⟨hk.1.1.1.1.1.1.1.1.1.1.2, ⟨hk.1.2, hk.2⟩⟩⟩⟩⟩))))) (Reps.c4 (show Kd.FK k25 _ _ (⟨1, ([] : List ByteArray), y148, 0⟩ : S25) [.int .u8 1, .slice none 0 0, .slice Ao79 y148.length co79, .int .i64 0] from (k25_mkF _ _ (⟨1, ([] : List ByteArray), y148, 0⟩ : S25) (Nat.le_refl _) (Kd.F_nil _ _ _) (Kd.R_reads' (Kd.R_mono (ok' := (fun k_ => some k_ ≠ (.slice Ao8 y101.length co8 : Value).ownBlock ∧ some k_ ≠ (.slice Ao7 y104.length co7 : Value).ownBlock ∧ some k_ ≠ (.slice Ao66 t132.length co66 : Value).ownBlock ∧ some k_ ≠ (.slice Ao67 t135.length co67 : Value).ownBlock ∧ k_ ≠ gb107 ∧ k_ ≠ gb141)) (Kd.R_types (Kd.R_types (Kd.R_apart' (Kd.R_apart' (HO150.out) (Kd.R_typed HO_108001.out) (by decide)) (Kd.R_typed HO_142001.out) (by decide)) BK107.out (by decide)) BK141.out (by decide)) (fun k_ hk => ⟨hk.1.1.1.2, ⟨hk.1.1.1.1.1.1.1.1.1.1.1.2, ⟨hk.1.1.2, ⟨hk.1.1.1.1.1.1.1.1.1.1.2, ⟨hk.1.2, hk.2⟩⟩⟩⟩⟩))).2.1 (Kd.R_F (Kd.R_mono (ok' := (fun k_ => some k_ ≠ (.slice Ao8 y101.length co8 : Value).ownBlock ∧ some k_ ≠ (.slice Ao7 y104.length co7 : Value).ownBlock ∧ some k_ ≠ (.slice Ao66 t132.length co66 : Value).ownBlock ∧ some k_ ≠ (.slice Ao67 t135.length co67 : Value).ownBlock ∧ k_ ≠ gb107 ∧ k_ ≠ gb141)) (Kd.R_types (Kd.R_types (Kd.R_apart' (Kd.R_apart' (HO150.out) (Kd.R_typed HO_108001.out) (by decide)) (Kd.R_typed HO_142001.out) (by decide)) BK107.out (by decide)) BK141.out (by decide)) (fun k_ hk => ⟨hk.1.1.1.2, ⟨hk.1.1.1.1.1.1.1.1.1.1.1.2, ⟨hk.1.1.2, ⟨hk.1.1.1.1.1.1.1.1.1.1.2, ⟨hk.1.2, hk.2⟩⟩⟩⟩⟩))))) (Reps.c4 (show Kd.FK k25 _ _ (⟨1, ([] : List ByteArray), y151, 0⟩ : S25) [.int .u8 1, .slice none 0 0, .slice Ao82 y151.length co82, .int .i64 0] from (k25_mkF _ _ (⟨1, ([] : List ByteArray), y151, 0⟩ : S25) (Nat.le_refl _) (Kd.F_nil _ _ _) (Kd.R_reads' (Kd.R_mono (ok' := (fun k_ => some k_ ≠ (.slice Ao8 y101.length co8 : Value).ownBlock ∧ some k_ ≠ (.slice Ao7 y104.length co7 : Value).ownBlock ∧ some k_ ≠ (.slice Ao66 t132.length co66 : Value).ownBlock ∧ some k_ ≠ (.slice Ao67 t135.length co67 : Value).ownBlock ∧ k_ ≠ gb107 ∧ k_ ≠ gb141)) (Kd.R_types (Kd.R_types (Kd.R_apart' (Kd.R_apart' (HO153.out) (Kd.R_typed HO_108001.out) (by decide)) (Kd.R_typed HO_142001.out) (by decide)) BK107.out (by decide)) BK141.out (by decide)) (fun k_ hk => ⟨hk.1.1.1.2, ⟨hk.1.1.1.1.1.1.1.1.1.1.1.2, ⟨hk.1.1.2, ⟨hk.1.1.1.1.1.1.1.1.1.1.2, ⟨hk.1.2, hk.2⟩⟩⟩⟩⟩))).2.1 (Kd.R_F (Kd.R_mono (ok' := (fun k_ => some k_ ≠ (.slice Ao8 y101.length co8 : Value).ownBlock ∧ some k_ ≠ (.slice Ao7 y104.length co7 : Value).ownBlock ∧ some k_ ≠ (.slice Ao66 t132.length co66 : Value).ownBlock ∧ some k_ ≠ (.slice Ao67 t135.length co67 : Value).ownBlock ∧ k_ ≠ gb107 ∧ k_ ≠ gb141)) (Kd.R_types (Kd.R_types (Kd.R_apart' (Kd.R_apart' (HO153.out) (Kd.R_typed HO_108001.out) (by decide)) (Kd.R_typed HO_142001.out) (by decide)) BK107.out (by decide)) BK141.out (by decide)) (fun k_ hk => ⟨hk.1.1.1.2, ⟨hk.1.1.1.1.1.1.1.1.1.1.1.2, ⟨hk.1.1.2, ⟨hk.1.1.1.1.1.1.1.1.1.1.2, ⟨hk.1.2, hk.2⟩⟩⟩⟩⟩))))) (Reps.c4 (show Kd.FK k25 _ _ (⟨1, ([] : List ByteArray), y154, 0⟩ : S25) [.int .u8 1, .slice none 0 0, .slice Ao85 y154.length co85, .int .i64 0] from (k25_mkF _ _ (⟨1, ([] : List ByteArray), y154, 0⟩ : S25) (Nat.le_refl _) (Kd.F_nil _ _ _) (Kd.R_reads' (Kd.R_mono (ok' := (fun k_ => some k_ ≠ (.slice Ao8 y101.length co8 : Value).ownBlock ∧ some k_ ≠ (.slice Ao7 y104.length co7 : Value).ownBlock ∧ some k_ ≠ (.slice Ao66 t132.length co66 : Value).ownBlock ∧ some k_ ≠ (.slice Ao67 t135.length co67 : Value).ownBlock ∧ k_ ≠ gb107 ∧ k_ ≠ gb141)) (Kd.R_types (Kd.R_types (Kd.R_apart' (Kd.R_apart' (HO156.out) (Kd.R_typed HO_108001.out) (by decide)) (Kd.R_typed HO_142001.out) (by decide)) BK107.out (by decide)) BK141.out (by decide)) (fun k_ hk => ⟨hk.1.1.1.2, ⟨hk.1.1.1.1.1.1.1.1.1.1.1.2, ⟨hk.1.1.2, ⟨hk.1.1.1.1.1.1.1.1.1.1.2, ⟨hk.1.2, hk.2⟩⟩⟩⟩⟩))).2.1 (Kd.R_F (Kd.R_mono (ok' := (fun k_ => some k_ ≠ (.slice Ao8 y101.length co8 : Value).ownBlock ∧ some k_ ≠ (.slice Ao7 y104.length co7 : Value).ownBlock ∧ some k_ ≠ (.slice Ao66 t132.length co66 : Value).ownBlock ∧ some k_ ≠ (.slice Ao67 t135.length co67 : Value).ownBlock ∧ k_ ≠ gb107 ∧ k_ ≠ gb141)) (Kd.R_types (Kd.R_types (Kd.R_apart' (Kd.R_apart' (HO156.out) (Kd.R_typed HO_108001.out) (by decide)) (Kd.R_typed HO_142001.out) (by decide)) BK107.out (by decide)) BK141.out (by decide)) (fun k_ hk => ⟨hk.1.1.1.2, ⟨hk.1.1.1.1.1.1.1.1.1.1.1.2, ⟨hk.1.1.2, ⟨hk.1.1.1.1.1.1.1.1.1.1.2, ⟨hk.1.2, hk.2⟩⟩⟩⟩⟩))))) (Reps.c4 (show Kd.FK k25 _ _ (⟨1, ([] : List ByteArray), y157, 0⟩ : S25) [.int .u8 1, .slice none 0 0, .slice Ao88 y157.length co88, .int .i64 0] from (k25_mkF _ _ (⟨1, ([] : List ByteArray), y157, 0⟩ : S25) (Nat.le_refl _) (Kd.F_nil _ _ _) (Kd.R_reads' (Kd.R_mono (ok' := (fun k_ => some k_ ≠ (.slice Ao8 y101.length co8 : Value).ownBlock ∧ some k_ ≠ (.slice Ao7 y104.length co7 : Value).ownBlock ∧ some k_ ≠ (.slice Ao66 t132.length co66 : Value).ownBlock ∧ some k_ ≠ (.slice Ao67 t135.length co67 : Value).ownBlock ∧ k_ ≠ gb107 ∧ k_ ≠ gb141)) (Kd.R_types (Kd.R_types (Kd.R_apart' (Kd.R_apart' (HO159.out) (Kd.R_typed HO_108001.out) (by decide)) (Kd.R_typed HO_142001.out) (by decide)) BK107.out (by decide)) BK141.out (by decide)) (fun k_ hk => ⟨hk.1.1.1.2, ⟨hk.1.1.1.1.1.1.1.1.1.1.1.2, ⟨hk.1.1.2, ⟨hk.1.1.1.1.1.1.1.1.1.1.2, ⟨hk.1.2, hk.2⟩⟩⟩⟩⟩))).2.1 (Kd.R_F (Kd.R_mono (ok' := (fun k_ => some k_ ≠ (.slice Ao8 y101.length co8 : Value).ownBlock ∧ some k_ ≠ (.slice Ao7 y104.length co7 : Value).ownBlock ∧ some k_ ≠ (.slice Ao66 t132.length co66 : Value).ownBlock ∧ some k_ ≠ (.slice Ao67 t135.length co67 : Value).ownBlock ∧ k_ ≠ gb107 ∧ k_ ≠ gb141)) (Kd.R_types (Kd.R_types (Kd.R_apart' (Kd.R_apart' (HO159.out) (Kd.R_typed HO_108001.out) (by decide)) (Kd.R_typed HO_142001.out) (by decide)) BK107.out (by decide)) BK141.out (by decide)) (fun k_ hk => ⟨hk.1.1.1.2, ⟨hk.1.1.1.1.1.1.1.1.1.1.1.2, ⟨hk.1.1.2, ⟨hk.1.1.1.1.1.1.1.1.1.1.2, ⟨hk.1.2, hk.2⟩⟩⟩⟩⟩))))) (Reps.c4 (show Kd.FK k25 _ _ (⟨1, ([] : List ByteArray), y160, 0⟩ : S25) [.int .u8 1, .slice none 0 0, .slice Ao91 y160.length co91, .int .i64 0] from (k25_mkF _ _ (⟨1, ([] : List ByteArray), y160, 0⟩ : S25) (Nat.le_refl _) (Kd.F_nil _ _ _) (Kd.R_reads' (Kd.R_mono (ok' := (fun k_ => some k_ ≠ (.slice Ao8 y101.length co8 : Value).ownBlock ∧ some k_ ≠ (.slice Ao7 y104.length co7 : Value).ownBlock ∧ some k_ ≠ (.slice Ao66 t132.length co66 : Value).ownBlock ∧ some k_ ≠ (.slice Ao67 t135.length co67 : Value).ownBlock ∧ k_ ≠ gb107 ∧ k_ ≠ gb141)) (Kd.R_types (Kd.R_types (Kd.R_apart' (Kd.R_apart' (HO162.out) (Kd.R_typed HO_108001.out) (by decide)) (Kd.R_typed HO_142001.out) (by decide)) BK107.out (by decide)) BK141.out (by decide)) (fun k_ hk => ⟨hk.1.1.1.2, ⟨hk.1.1.1.1.1.1.1.1.1.1.1.2, ⟨hk.1.1.2, ⟨hk.1.1.1.1.1.1.1.1.1.1.2, ⟨hk.1.2, hk.2⟩⟩⟩⟩⟩))).2.1 (Kd.R_F (Kd.R_mono (ok' := (fun k_ => some k_ ≠ (.slice Ao8 y101.length co8 : Value).ownBlock ∧ some k_ ≠ (.slice Ao7 y104.length co7 : Value).ownBlock ∧ some k_ ≠ (.slice Ao66 t132.length co66 : Value).ownBlock ∧ some k_ ≠ (.slice Ao67 t135.length co67 : Value).ownBlock ∧ k_ ≠ gb107 ∧ k_ ≠ gb141)) (Kd.R_types (Kd.R_types (Kd.R_apart' (Kd.R_apart' (HO162.out) (Kd.R_typed HO_108001.out) (by decide)) (Kd.R_typed HO_142001.out) (by decide)) BK107.out (by decide)) BK141.out (by decide)) (fun k_ hk => ⟨hk.1.1.1.2, ⟨hk.1.1.1.1.1.1.1.1.1.1.1.2, ⟨hk.1.1.2, ⟨hk.1.1.1.1.1.1.1.1.1.1.2, ⟨hk.1.2, hk.2⟩⟩⟩⟩⟩))))) (Reps.none _ _)))))))))))); intro v164 w92 ho93 hb hg_ hnew_; clear hg_ hnew_; (first | rw [← Ny163.out] at ho93 | (simp only [Int.reduceToNat] at ho93; rw [← Ny163.out] at ho93)); have n0_ := Aside0.mk (Kd.R_below (kr HO_108001) hb); have n1_ := Aside0.mk (Kd.R_below (kr HO_108002) hb); have n2_ := Aside0.mk (Kd.R_below (kr HO_142001) hb); have n3_ := Aside0.mk (Kd.R_below (kr HO_142002) hb); have n4_ := Aside0.mk (Kd.N_lower ho93 (below_size (bl2 HB GE107 GE141))); have n5_ := Aside0.mk (blk_below (g := gb107) (o := .cells #[.int .u8 2, .slice Ao8 y101.length co8, .slice Ao7 y104.length co7, .int .i64 300] 25 (0, 0)) (bk BK107) hb); have n6_ := Aside0.mk (blk_below (g := gb141) (o := .cells #[.int .u8 t131, .slice Ao66 t132.length co66, .slice Ao67 t135.length co67, .int .i64 t138] 25 (0, 0)) (bk BK141) hb); have n7_ := Aside0.mk (below_step (bl2 HB GE107 GE141) hb); clear HO_108001; clear HO_108002; clear HO_142001; clear HO_142002; clear BK107; clear BK141; clear HB; clear HO144; clear HO147; clear HO150; clear HO153; clear HO156; clear HO159; clear HO162; have HO_108001 := n0_; have HO_108002 := n1_; have HO_142001 := n2_; have HO_142002 := n3_; have HO165 := n4_; have BK107 := n5_; have BK141 := n6_; have HB := n7_; clear n0_ n1_ n2_ n3_ n4_ n5_ n6_ n7_; clear hb ho93))
         go_loopg [12] kj59 (fun kq v12 w' => ∃ (x12_5 : Int), v12 = .int .i64 x12_5 ∧ Aside0 (vouchlaw21_CodeKnown.l0 kq x4_1 x5_13 x6_37 x10_59 y163 x12_5 = some r) ∧ Aside0 (kq ≤ kj59) ∧ Aside0 (Kd.N k25 25 w' w.heap.size (fun k_ => some k_ ≠ ((.slice Ao8 y101.length co8) : Value).ownBlock ∧ some k_ ≠ ((.slice Ao7 y104.length co7) : Value).ownBlock ∧ some k_ ≠ ((.slice Ao66 t132.length co66) : Value).ownBlock ∧ some k_ ≠ ((.slice Ao67 t135.length co67) : Value).ownBlock ∧ k_ ≠ gb107 ∧ k_ ≠ gb141) v164 y163) ∧ Aside0 (Kd.R Kd.string 9 w' w.heap.size (fun k_ => some k_ ≠ ((.slice Ao66 t132.length co66) : Value).ownBlock) (.slice Ao8 y101.length co8) y101) ∧ Aside0 (Kd.R k41 41 w' w.heap.size (fun k_ => some k_ ≠ ((.slice Ao67 t135.length co67) : Value).ownBlock) (.slice Ao7 y104.length co7) y104) ∧ Aside0 (Kd.R Kd.string 9 w' w.heap.size (fun k_ => some k_ ≠ ((.slice Ao8 y101.length co8) : Value).ownBlock) (.slice Ao66 t132.length co66) t132) ∧ Aside0 (Kd.R k41 41 w' w.heap.size (fun k_ => some k_ ≠ ((.slice Ao7 y104.length co7) : Value).ownBlock) (.slice Ao67 t135.length co67) t135) ∧ Aside0 (w'.heap[gb107]? = some (.cells #[.int .u8 2, (.slice Ao8 y101.length co8), (.slice Ao7 y104.length co7), .int .i64 300] 25 (0, 0))) ∧ Aside0 (w'.heap[gb141]? = some (.cells #[.int .u8 t131, (.slice Ao66 t132.length co66), (.slice Ao67 t135.length co67), .int .i64 t138] 25 (0, 0))) ∧ Aside0 (Below w.heap.size w w'))
         case atStart => exact ⟨(0), (by first | rfl | (simp; done) | (simp [*]; done)), H', ⟨Nat.le_refl _⟩, ⟨by (with_reducible repeat (first | apply Kd.N_alloc | apply Kd.N_drewN | apply Kd.N_drew)); exact HO165.out⟩, ⟨by (with_reducible repeat (first | apply Kd.R_alloc | apply Kd.R_drewN | apply Kd.R_drew)); exact HO_108001.out⟩, ⟨by (with_reducible repeat (first | apply Kd.R_alloc | apply Kd.R_drewN | apply Kd.R_drew)); exact Kd.R_mono HO_108002.out (fun _ hk => hk.1.1.1.1.1.1.1)⟩, ⟨by (with_reducible repeat (first | apply Kd.R_alloc | apply Kd.R_drewN | apply Kd.R_drew)); exact HO_142001.out⟩, ⟨by (with_reducible repeat (first | apply Kd.R_alloc | apply Kd.R_drewN | apply Kd.R_drew)); exact Kd.R_mono HO_142002.out (fun _ hk => hk.1.1.1.1.1.1.1)⟩, ⟨by (with_reducible repeat (first | refine blk_drewN ?_ _ | refine blk_drew ?_ | refine blk_alloc ?_ _)); exact BK107.out⟩, ⟨by (with_reducible repeat (first | refine blk_drewN ?_ _ | refine blk_drew ?_ | refine blk_alloc ?_ _)); exact BK141.out⟩, ⟨by repeat (first | (with_reducible first | exact HB.out | apply below_alloc | apply pw_below_drewN | apply below_drew1 | refine below_set ?_ GE107.out | refine below_set ?_ GE141.out) | exact HB.out)⟩⟩
         case round =>
          clear H'
          try clear c1
          try clear hcv1
          try clear c2
          try clear p2
          try clear c3
          try clear c4
          try clear c5
          try clear c6
          try clear c9
          try clear c11
          try clear c12
          try clear c12b0
          try clear c12b1
          try clear hcv13
          try clear c16
          try clear c18
          try clear c20
          try clear c22
          try clear c24
          try clear c26
          try clear c28
          try clear c40
          try clear c42
          try clear c44
          try clear c46
          try clear c48
          try clear c50
          try clear c64
          try clear c68
          try clear c68b0
          try clear c68b1
          try clear c69
          try clear hcz10_0
          try clear hcz10_1
          try clear hcz10_2
          try clear hcz10_3
          try clear hcz65_0
          try clear hcz65_1
          try clear hcz65_2
          try clear hcz65_3
          try clear hcz70_0
          try clear hcz70_1
          try clear hcz70_2
          try clear hcz70_3
          try clear hfz10_0
          try clear hfz10_1
          try clear hfz10_2
          try clear hfz10_3
          try clear hfz65_0
          try clear hfz65_1
          try clear hfz65_2
          try clear hfz65_3
          try clear hfz70_0
          try clear hfz70_1
          try clear hfz70_2
          try clear hfz70_3
          try clear p2
          obtain ⟨x12_5, rfl, HA, HK5, HO_11, HO_108001, HO_108002, HO_142001, HO_142002, BK107, BK141, HB⟩ := hrel
          cases gk with
          | zero => exact absurd HA.out (by simp [vouchlaw21_CodeKnown.l0])
          | succ k5 =>
           have H := HA.out
           clear HA
           simp only [vouchlaw21_CodeKnown.l0] at H
           by_cases c94 : x12_5 < (y163.length : Int)
           ·rw [if_pos c94] at H
            have c94b0 : decide (x12_5 < (y163.length : Int)) = true := decide_eq_true c94
            clear c94
            by_cases c95 : 0 ≤ x12_5
            ·rw [if_pos c95] at H
             have c95b0 : decide (0 ≤ x12_5) = true := decide_eq_true c95
             clear c95
             replace H := Option.bind_eq_some_iff.mp H
             obtain ⟨t167, A960, H⟩ := H
             replace H : (if t167 = 210 then (vouchlaw21_CodeKnown.l0 k5 x4_1 x5_13 x6_37 x10_59 y163 (wrap64 (x12_5 + 1))) else (some false)) = some r := H
             have A96 := Aside0.mk A960
             clear A960
             by_cases c97 : t167 = 210
             ·rw [if_pos c97] at H
              have c97b0 : (t167 == 210) = true := beq_iff_eq.mpr c97
              have c97b1 : (t167 != 210) = false := bne_eq_false_iff_eq.mpr c97
              clear c97
              have H' := Aside0.mk H
              clear H
              obtain ⟨Ao98, co98, eo98⟩ := Kd.N_slice HO_11.out
              subst eo98
              have p166 : 0 ≤ (x12_5 : Int) := of_decide_eq_true (by first | (with_reducible assumption) | assumption)
              have q166 : x12_5 < (y163.length : Int) := of_decide_eq_true (by first | (with_reducible assumption) | assumption)
              obtain ⟨ad166, A166_1, c166_1, A166_2, c166_2, e166, hx166_0, hx166_1, hx166_2, hx166_3, hl166_1, hi166_1, hl166_2, hi166_2⟩ := at_T25 (Kd.N_reads' HO_11.out).2.2 x12_5 p166 q166
              cases e166
              obtain ⟨ce166, hce166, hMe166, hcc166⟩ := Kd.N_get HO_11.out z25 x12_5 p166 (by first | exact q166 | exact of_decide_eq_true (by first | (with_reducible assumption) | assumption) | (have e_ := (Kd.N_reads' HO_11.out).1; omega))
              obtain ⟨ua166_1, uc166_1, ua166_2, uc166_2, rfl, ul166_1, ge166_1, ul166_2, ge166_2⟩ := k25_openF hMe166
              have hv166_1 := hcc166 1 _ rfl
              rw [add_field _ _ 1 (by omega)] at hv166_1
              replace hv166_1 := Option.some.inj (hv166_1.symm.trans hx166_1)
              injection hv166_1 with hva_ hvn_ hvc_
              rw [hva_] at ge166_1
              rw [hvc_] at ul166_1
              have HL166_1 := Aside0.mk (show Kd.V Kd.string 9 _ w.heap.size _ _ ((rd_T25 y163 x12_5).f1) from Kd.V_mk ul166_1 ge166_1)
              clear hva_ hvn_ hvc_ ge166_1 ul166_1
              have hv166_2 := hcc166 2 _ rfl
              rw [add_field _ _ 2 (by omega)] at hv166_2
              replace hv166_2 := Option.some.inj (hv166_2.symm.trans hx166_2)
              injection hv166_2 with hva_ hvn_ hvc_
              rw [hva_] at ge166_2
              rw [hvc_] at ul166_2
              have HL166_2 := Aside0.mk (show Kd.V k41 41 _ w.heap.size _ _ ((rd_T25 y163 x12_5).f2) from Kd.V_mk ul166_2 ge166_2)
              clear hva_ hvn_ hvc_ ge166_2 ul166_2
              clear hcc166 hce166
              have HR166_1 := Aside0.mk hi166_1
              have HC166_1 := Aside0.mk hl166_1
              clear hi166_1 hl166_1
              have HR166_2 := Aside0.mk hi166_2
              have HC166_2 := Aside0.mk hl166_2
              clear hi166_2 hl166_2
              replace p166 := eq_true p166
              replace q166 := eq_true q166
              go_wp2_with (first | ((with_reducible refine gate_callee (f := 13) rfl ?_); refine goesL_ (some 124) rfl rfl Try.func13 (by kernel_rfl) rfl #[.agg #[.int .u8 ((rd_T25 y163 x12_5).f0), .slice A166_1 ((rd_T25 y163 x12_5).f1).length c166_1, .slice A166_2 ((rd_T25 y163 x12_5).f2).length c166_2, .int .i64 ((rd_T25 y163 x12_5).f3)]] rfl (by (try simp only [List.map_toArray, List.map_cons, List.map_nil]); first | done | rfl | (simp only [List.length_drop, List.length_take]; rfl)) ?_; (with_reducible refine (code_Check.calls k5 ((rd_T25 y163 x12_5).f0) _ _ ((rd_T25 y163 x12_5).f1) _ _ ((rd_T25 y163 x12_5).f2) ((rd_T25 y163 x12_5).f3) t167 _ ?side1 ?side2 ?side3 ?side4 A96.out).mono ?_); (case side1 => repeat (first | exact (by repeat (first | (with_reducible exact HR166_1.out) | (with_reducible refine Kd.C_alloc ?_ _) | (with_reducible refine Kd.C_drewN ?_ _) | (with_reducible refine Kd.C_drew ?_) | exact HR166_1.out)) | (with_reducible refine Kd.C_alloc ?_ _) | (with_reducible refine Kd.C_drewN ?_ _) | (with_reducible refine Kd.C_drew ?_))); (case side2 => exact HC166_1.out); (case side3 => repeat (first | exact (by repeat (first | (with_reducible exact HR166_2.out) | (with_reducible refine Kd.C_alloc ?_ _) | (with_reducible refine Kd.C_drewN ?_ _) | (with_reducible refine Kd.C_drew ?_) | exact HR166_2.out)) | (with_reducible refine Kd.C_alloc ?_ _) | (with_reducible refine Kd.C_drewN ?_ _) | (with_reducible refine Kd.C_drew ?_))); (case side4 => exact HC166_2.out); rintro e w99 ⟨rfl, hb⟩; refine ⟨_, rfl, ?_⟩; have n0_ := Aside0.mk (Kd.N_below (by (with_reducible repeat (first | apply Kd.N_alloc | apply Kd.N_drewN | apply Kd.N_drew)); exact HO_11.out) hb); have n1_ := Aside0.mk (Kd.R_below (kr HO_108001) hb); have n2_ := Aside0.mk (Kd.R_below (kr HO_108002) hb); have n3_ := Aside0.mk (Kd.R_below (kr HO_142001) hb); have n4_ := Aside0.mk (Kd.R_below (kr HO_142002) hb); have n5_ := Aside0.mk (Kd.V_below (by (with_reducible repeat (first | apply Kd.V_alloc | apply Kd.V_drewN | apply Kd.V_drew)); exact HL166_1.out) hb); have n6_ := Aside0.mk (Kd.V_below (by (with_reducible repeat (first | apply Kd.V_alloc | apply Kd.V_drewN | apply Kd.V_drew)); exact HL166_2.out) hb); have n7_ := Aside0.mk (blk_below (g := gb107) (o := .cells #[.int .u8 2, .slice Ao8 y101.length co8, .slice Ao7 y104.length co7, .int .i64 300] 25 (0, 0)) (bk BK107) hb); have n8_ := Aside0.mk (blk_below (g := gb141) (o := .cells #[.int .u8 t131, .slice Ao66 t132.length co66, .slice Ao67 t135.length co67, .int .i64 t138] 25 (0, 0)) (bk BK141) hb); have n9_ := Aside0.mk (Kd.C_below (by repeat (first | (with_reducible exact HR166_1.out) | (with_reducible refine Kd.C_alloc ?_ _) | (with_reducible refine Kd.C_drewN ?_ _) | (with_reducible refine Kd.C_drew ?_) | exact HR166_1.out)) hb); have n10_ := Aside0.mk (Kd.C_below (by repeat (first | (with_reducible exact HR166_2.out) | (with_reducible refine Kd.C_alloc ?_ _) | (with_reducible refine Kd.C_drewN ?_ _) | (with_reducible refine Kd.C_drew ?_) | exact HR166_2.out)) hb); have n11_ := Aside0.mk (below_step (bl2 HB GE107 GE141) hb); clear HO_11; clear HO_108001; clear HO_108002; clear HO_142001; clear HO_142002; clear HL166_1; clear HL166_2; clear BK107; clear BK141; clear HR166_1; clear HR166_2; clear HB; have HO_11 := n0_; have HO_108001 := n1_; have HO_108002 := n2_; have HO_142001 := n3_; have HO_142002 := n4_; have HL166_1 := n5_; have HL166_2 := n6_; have BK107 := n7_; have BK141 := n8_; have HR166_1 := n9_; have HR166_2 := n10_; have HB := n11_; clear n0_ n1_ n2_ n3_ n4_ n5_ n6_ n7_ n8_ n9_ n10_ n11_; (try clear hb); (try clear hb2); (try clear hk); (try clear hi)))
              go_roundg k5
              case measure => have := HJ1.out; have := HJ13.out; have := HJ37.out; have := HJ59.out; have := HK5.out; omega
              case rel => exact ⟨(wrap64 (x12_5 + 1)), (by first | rfl | (simp; done) | (simp [*]; done)), H', ⟨by have := HJ1.out; have := HJ13.out; have := HJ37.out; have := HJ59.out; have := HK5.out; omega⟩, ⟨by (with_reducible repeat (first | apply Kd.N_alloc | apply Kd.N_drewN | apply Kd.N_drew)); exact HO_11.out⟩, ⟨by (with_reducible repeat (first | apply Kd.R_alloc | apply Kd.R_drewN | apply Kd.R_drew)); exact HO_108001.out⟩, ⟨by (with_reducible repeat (first | apply Kd.R_alloc | apply Kd.R_drewN | apply Kd.R_drew)); exact HO_108002.out⟩, ⟨by (with_reducible repeat (first | apply Kd.R_alloc | apply Kd.R_drewN | apply Kd.R_drew)); exact HO_142001.out⟩, ⟨by (with_reducible repeat (first | apply Kd.R_alloc | apply Kd.R_drewN | apply Kd.R_drew)); exact HO_142002.out⟩, ⟨by (with_reducible repeat (first | refine blk_drewN ?_ _ | refine blk_drew ?_ | refine blk_alloc ?_ _)); exact BK107.out⟩, ⟨by (with_reducible repeat (first | refine blk_drewN ?_ _ | refine blk_drew ?_ | refine blk_alloc ?_ _)); exact BK141.out⟩, ⟨by repeat (first | (with_reducible first | exact HB.out | apply below_alloc | apply pw_below_drewN | apply below_drew1 | refine below_set ?_ GE107.out | refine below_set ?_ GE141.out) | exact HB.out)⟩⟩
             ·rw [if_neg c97] at H
              have c97b0 : (t167 == 210) = false := beq_eq_false_iff_ne.mpr c97
              have c97b1 : (t167 != 210) = true := bne_iff_ne.mpr c97
              exact absurd (Option.some.inj H) (by rw [hr_]; decide)
            ·rw [if_neg c95] at H
             exact absurd H (by simp)
           ·rw [if_neg c94] at H
            have c94b0 : decide (x12_5 < (y163.length : Int)) = false := decide_eq_false c94
            clear c94
            have H' := Aside0.mk H
            clear H
            obtain ⟨Ao100, co100, eo100⟩ := Kd.N_slice HO_11.out
            subst eo100
            go_wp2
            go_loopg [13] k5 (fun kq v13 w' => ∃ (x13_6 : ByteArray), v13 = .string x13_6 ∧ Aside0 (vouchlaw21_CodeKnown.l1 kq x4_1 x5_13 x6_37 x10_59 x13_6 = some r) ∧ Aside0 (kq ≤ k5) ∧ Aside0 (Kd.R Kd.string 9 w' w.heap.size (fun k_ => some k_ ≠ ((.slice Ao66 t132.length co66) : Value).ownBlock) (.slice Ao8 y101.length co8) y101) ∧ Aside0 (Kd.R k41 41 w' w.heap.size (fun k_ => some k_ ≠ ((.slice Ao67 t135.length co67) : Value).ownBlock) (.slice Ao7 y104.length co7) y104) ∧ Aside0 (Kd.R Kd.string 9 w' w.heap.size (fun k_ => some k_ ≠ ((.slice Ao8 y101.length co8) : Value).ownBlock) (.slice Ao66 t132.length co66) t132) ∧ Aside0 (Kd.R k41 41 w' w.heap.size (fun k_ => some k_ ≠ ((.slice Ao7 y104.length co7) : Value).ownBlock) (.slice Ao67 t135.length co67) t135) ∧ Aside0 (w'.heap[gb107]? = some (.cells #[.int .u8 2, (.slice Ao8 y101.length co8), (.slice Ao7 y104.length co7), .int .i64 300] 25 (0, 0))) ∧ Aside0 (w'.heap[gb141]? = some (.cells #[.int .u8 t131, (.slice Ao66 t132.length co66), (.slice Ao67 t135.length co67), .int .i64 t138] 25 (0, 0))) ∧ Aside0 (Below w.heap.size w w'))
            case atStart => exact ⟨((⟨#[120, 120, 120, 120, 120, 120, 120, 120]⟩ : ByteArray)), (by first | rfl | (simp; done) | (simp [*]; done)), H', ⟨Nat.le_refl _⟩, ⟨by (with_reducible repeat (first | apply Kd.R_alloc | apply Kd.R_drewN | apply Kd.R_drew)); exact HO_108001.out⟩, ⟨by (with_reducible repeat (first | apply Kd.R_alloc | apply Kd.R_drewN | apply Kd.R_drew)); exact HO_108002.out⟩, ⟨by (with_reducible repeat (first | apply Kd.R_alloc | apply Kd.R_drewN | apply Kd.R_drew)); exact HO_142001.out⟩, ⟨by (with_reducible repeat (first | apply Kd.R_alloc | apply Kd.R_drewN | apply Kd.R_drew)); exact HO_142002.out⟩, ⟨by (with_reducible repeat (first | refine blk_drewN ?_ _ | refine blk_drew ?_ | refine blk_alloc ?_ _)); exact BK107.out⟩, ⟨by (with_reducible repeat (first | refine blk_drewN ?_ _ | refine blk_drew ?_ | refine blk_alloc ?_ _)); exact BK141.out⟩, ⟨by repeat (first | (with_reducible first | exact HB.out | apply below_alloc | apply pw_below_drewN | apply below_drew1 | refine below_set ?_ GE107.out | refine below_set ?_ GE141.out) | exact HB.out)⟩⟩
            case round =>
             clear H'
             try clear c1
             try clear p1
             try clear q1
             try clear hx1
             try clear hcv1
             try clear c2
             try clear p2
             try clear c3
             try clear c4
             try clear c5
             try clear c6
             try clear p6
             try clear c9
             try clear c11
             try clear c12
             try clear c12b0
             try clear c12b1
             try clear c13
             try clear hcv13
             try clear c16
             try clear p16
             try clear q16
             try clear hx16
             try clear c18
             try clear c20
             try clear c22
             try clear c24
             try clear c26
             try clear c28
             try clear c40
             try clear c42
             try clear c44
             try clear c46
             try clear c48
             try clear c50
             try clear c64
             try clear p64
             try clear c68
             try clear c68b0
             try clear c68b1
             try clear c69
             try clear c94
             try clear c94b0
             try clear c95
             try clear c95b0
             try clear c97
             try clear c97b0
             try clear c97b1
             try clear hcz10_0
             try clear hcz10_1
             try clear hcz10_2
             try clear hcz10_3
             try clear hcz65_0
             try clear hcz65_1
             try clear hcz65_2
             try clear hcz65_3
             try clear hcz70_0
             try clear hcz70_1
             try clear hcz70_2
             try clear hcz70_3
             try clear hfz10_0
             try clear hfz10_1
             try clear hfz10_2
             try clear hfz10_3
             try clear hfz65_0
             try clear hfz65_1
             try clear hfz65_2
             try clear hfz65_3
             try clear hfz70_0
             try clear hfz70_1
             try clear hfz70_2
             try clear hfz70_3
             try clear hx166_0
             try clear hx166_1
             try clear hx166_2
             try clear hx166_3
             try clear p166
             try clear p2
             try clear q166
             obtain ⟨x13_6, rfl, HA, HK6, HO_108001, HO_108002, HO_142001, HO_142002, BK107, BK141, HB⟩ := hrel
             cases gk with
             | zero => exact absurd HA.out (fun h_ => by change (none : Option Bool) = some r at h_; cases h_)
             | succ k6 =>
              have H := HA.out
              clear HA
              unfold vouchlaw21_CodeKnown.l1 at H
              by_cases c101 : (x13_6.size : Int) < 1048576
              ·rw [if_pos c101] at H
               have c101b0 : decide ((x13_6.size : Int) < 1048576) = true := decide_eq_true c101
               have c101b1 : decide (x13_6.size < 1048576) = true := decide_eq_true (by omega)
               clear c101
               by_cases c102 : x13_6.size + x13_6.size ≤ 9223372036854775807
               ·rw [if_pos c102] at H
                have c102b0 := eq_true c102
                have c102b1 : decide (x13_6.size + x13_6.size ≤ 9223372036854775807) = true := decide_eq_true c102
                try have c102b2 : (9223372036854775807 < x13_6.size + x13_6.size) = False := eq_false (Nat.not_lt.2 c102)
                have H' := Aside0.mk H
                clear H
                go_wp2
                go_roundg k6
                case measure => have := HJ1.out; have := HJ13.out; have := HJ37.out; have := HJ59.out; have := HK5.out; have := HK6.out; omega
                case rel => exact ⟨(x13_6 ++ x13_6), (by first | rfl | (simp; done) | (simp [*]; done)), H', ⟨by have := HJ1.out; have := HJ13.out; have := HJ37.out; have := HJ59.out; have := HK5.out; have := HK6.out; omega⟩, ⟨by (with_reducible repeat (first | apply Kd.R_alloc | apply Kd.R_drewN | apply Kd.R_drew)); exact HO_108001.out⟩, ⟨by (with_reducible repeat (first | apply Kd.R_alloc | apply Kd.R_drewN | apply Kd.R_drew)); exact HO_108002.out⟩, ⟨by (with_reducible repeat (first | apply Kd.R_alloc | apply Kd.R_drewN | apply Kd.R_drew)); exact HO_142001.out⟩, ⟨by (with_reducible repeat (first | apply Kd.R_alloc | apply Kd.R_drewN | apply Kd.R_drew)); exact HO_142002.out⟩, ⟨by (with_reducible repeat (first | refine blk_drewN ?_ _ | refine blk_drew ?_ | refine blk_alloc ?_ _)); exact BK107.out⟩, ⟨by (with_reducible repeat (first | refine blk_drewN ?_ _ | refine blk_drew ?_ | refine blk_alloc ?_ _)); exact BK141.out⟩, ⟨by repeat (first | (with_reducible first | exact HB.out | apply below_alloc | apply pw_below_drewN | apply below_drew1 | refine below_set ?_ GE107.out | refine below_set ?_ GE141.out) | exact HB.out)⟩⟩
               ·rw [if_neg c102] at H
                exact absurd H (by simp)
              ·rw [if_neg c101] at H
               have c101b0 : decide ((x13_6.size : Int) < 1048576) = false := decide_eq_false c101
               have c101b1 : decide (x13_6.size < 1048576) = false := decide_eq_false (by omega)
               clear c101
               have HC103 := Aside0.mk H
               clear H
               go_upto_region 17 with (fail)
               go_cut [14] (fun v14 wc => ∃ (kq : Nat) (x14_102 : Bool), v14 = .bool x14_102 ∧ Aside0 (vouchlaw21_CodeKnown.j6 kq x4_1 x5_13 x6_37 x10_59 x14_102 = some r) ∧ Aside0 (kq ≤ k6) ∧ Aside0 (Kd.R Kd.string 9 wc w.heap.size (fun k_ => some k_ ≠ ((.slice Ao66 t132.length co66) : Value).ownBlock) (.slice Ao8 y101.length co8) y101) ∧ Aside0 (Kd.R k41 41 wc w.heap.size (fun k_ => some k_ ≠ ((.slice Ao67 t135.length co67) : Value).ownBlock) (.slice Ao7 y104.length co7) y104) ∧ Aside0 (Kd.R Kd.string 9 wc w.heap.size (fun k_ => some k_ ≠ ((.slice Ao8 y101.length co8) : Value).ownBlock) (.slice Ao66 t132.length co66) t132) ∧ Aside0 (Kd.R k41 41 wc w.heap.size (fun k_ => some k_ ≠ ((.slice Ao7 y104.length co7) : Value).ownBlock) (.slice Ao67 t135.length co67) t135) ∧ Aside0 (wc.heap[gb107]? = some (.cells #[.int .u8 2, (.slice Ao8 y101.length co8), (.slice Ao7 y104.length co7), .int .i64 300] 25 (0, 0))) ∧ Aside0 (wc.heap[gb141]? = some (.cells #[.int .u8 t131, (.slice Ao66 t132.length co66), (.slice Ao67 t135.length co67), .int .i64 t138] 25 (0, 0))) ∧ Aside0 (Below w.heap.size w wc))
               case first =>
                have H := HC103.out
                clear HC103
                obtain ⟨y168, hy168⟩ : ∃ y_ : List ByteArray, y_ = (([x13_6] : List ByteArray)) := ⟨_, rfl⟩
                replace H : ((code_Check.f k6 1 y168 ([] : List (S41)) 0).bind fun t171 => (if t171 = 3 then (if 0 ≤ 1048567 then (if 1048567 ≤ (x13_6.size : Int) then ((code_Check.f k6 1 (([x13_6.extract 0 1048567] : List ByteArray)) ([] : List (S41)) 0).bind fun t175 => (if t175 = 0 then (if 0 ≤ 1048568 then (if 1048568 ≤ (x13_6.size : Int) then ((code_Check.f k6 1 (([x13_6.extract 0 1048568] : List ByteArray)) ([] : List (S41)) 0).bind fun t179 => (if t179 = 3 then (if x13_6.size + 1 ≤ 9223372036854775807 then ((vouchlaw21_wrong.f k6 (x13_6 ++ (⟨#[120]⟩ : ByteArray)) 3 0).bind fun t180 => (if t180 = true then ((vouchlaw21_wrong.f k6 x13_6 210 0).bind fun t181 => (vouchlaw21_CodeKnown.j6 k6 x4_1 x5_13 x6_37 x10_59 t181)) else (vouchlaw21_CodeKnown.j6 k6 x4_1 x5_13 x6_37 x10_59 false))) else (none)) else (vouchlaw21_CodeKnown.j6 k6 x4_1 x5_13 x6_37 x10_59 false))) else (none)) else (none)) else (vouchlaw21_CodeKnown.j6 k6 x4_1 x5_13 x6_37 x10_59 false))) else (none)) else (none)) else (vouchlaw21_CodeKnown.j6 k6 x4_1 x5_13 x6_37 x10_59 false))) = some r := by first | (rw [hy168]; with_reducible exact H) | (have H2_ := (Option.bind_some _ _).symm.trans H; rw [hy168]; with_reducible exact H2_) | (have H2_ := (Option.bind_some _ _).symm.trans H; with_reducible exact H2_) | with_reducible exact H | (rw [hy168]; exact H) | exact H
                have Ny168 := Aside0.mk hy168
                clear hy168
                replace H := Option.bind_eq_some_iff.mp H
                obtain ⟨t171, A1040, H⟩ := H
                replace H : (if t171 = 3 then (if 0 ≤ 1048567 then (if 1048567 ≤ (x13_6.size : Int) then ((code_Check.f k6 1 (([x13_6.extract 0 1048567] : List ByteArray)) ([] : List (S41)) 0).bind fun t175 => (if t175 = 0 then (if 0 ≤ 1048568 then (if 1048568 ≤ (x13_6.size : Int) then ((code_Check.f k6 1 (([x13_6.extract 0 1048568] : List ByteArray)) ([] : List (S41)) 0).bind fun t179 => (if t179 = 3 then (if x13_6.size + 1 ≤ 9223372036854775807 then ((vouchlaw21_wrong.f k6 (x13_6 ++ (⟨#[120]⟩ : ByteArray)) 3 0).bind fun t180 => (if t180 = true then ((vouchlaw21_wrong.f k6 x13_6 210 0).bind fun t181 => (vouchlaw21_CodeKnown.j6 k6 x4_1 x5_13 x6_37 x10_59 t181)) else (vouchlaw21_CodeKnown.j6 k6 x4_1 x5_13 x6_37 x10_59 false))) else (none)) else (vouchlaw21_CodeKnown.j6 k6 x4_1 x5_13 x6_37 x10_59 false))) else (none)) else (none)) else (vouchlaw21_CodeKnown.j6 k6 x4_1 x5_13 x6_37 x10_59 false))) else (none)) else (none)) else (vouchlaw21_CodeKnown.j6 k6 x4_1 x5_13 x6_37 x10_59 false)) = some r := H
                have A104 := Aside0.mk A1040
                clear A1040
                by_cases c105 : t171 = 3
                ·rw [if_pos c105] at H
                 have c105b0 : (t171 == 3) = true := beq_iff_eq.mpr c105
                 have c105b1 : (t171 != 3) = false := bne_eq_false_iff_eq.mpr c105
                 clear c105
                 (first | rw [c105b0] | (simp only [i64_w, i32_w]; rw [c105b0]) | skip)
                 by_cases c106 : 0 ≤ 1048567
                 ·rw [if_pos c106] at H
                  have c106b0 := eq_true c106
                  have c106b1 : decide (0 ≤ 1048567) = true := decide_eq_true c106
                  clear c106
                  by_cases c107 : 1048567 ≤ (x13_6.size : Int)
                  ·rw [if_pos c107] at H
                   have c107b0 := eq_true c107
                   have c107b1 : decide (1048567 ≤ (x13_6.size : Int)) = true := decide_eq_true c107
                   clear c107
                   obtain ⟨y172, hy172⟩ : ∃ y_ : List ByteArray, y_ = (([x13_6.extract 0 1048567] : List ByteArray)) := ⟨_, rfl⟩
                   replace H : ((code_Check.f k6 1 y172 ([] : List (S41)) 0).bind fun t175 => (if t175 = 0 then (if 0 ≤ 1048568 then (if 1048568 ≤ (x13_6.size : Int) then ((code_Check.f k6 1 (([x13_6.extract 0 1048568] : List ByteArray)) ([] : List (S41)) 0).bind fun t179 => (if t179 = 3 then (if x13_6.size + 1 ≤ 9223372036854775807 then ((vouchlaw21_wrong.f k6 (x13_6 ++ (⟨#[120]⟩ : ByteArray)) 3 0).bind fun t180 => (if t180 = true then ((vouchlaw21_wrong.f k6 x13_6 210 0).bind fun t181 => (vouchlaw21_CodeKnown.j6 k6 x4_1 x5_13 x6_37 x10_59 t181)) else (vouchlaw21_CodeKnown.j6 k6 x4_1 x5_13 x6_37 x10_59 false))) else (none)) else (vouchlaw21_CodeKnown.j6 k6 x4_1 x5_13 x6_37 x10_59 false))) else (none)) else (none)) else (vouchlaw21_CodeKnown.j6 k6 x4_1 x5_13 x6_37 x10_59 false))) = some r := by first | (rw [hy172]; with_reducible exact H) | (have H2_ := (Option.bind_some _ _).symm.trans H; rw [hy172]; with_reducible exact H2_) | (have H2_ := (Option.bind_some _ _).symm.trans H; with_reducible exact H2_) | with_reducible exact H | (rw [hy172]; exact H) | exact H
                   have Ny172 := Aside0.mk hy172
                   clear hy172
                   replace H := Option.bind_eq_some_iff.mp H
                   obtain ⟨t175, A1080, H⟩ := H
                   replace H : (if t175 = 0 then (if 0 ≤ 1048568 then (if 1048568 ≤ (x13_6.size : Int) then ((code_Check.f k6 1 (([x13_6.extract 0 1048568] : List ByteArray)) ([] : List (S41)) 0).bind fun t179 => (if t179 = 3 then (if x13_6.size + 1 ≤ 9223372036854775807 then ((vouchlaw21_wrong.f k6 (x13_6 ++ (⟨#[120]⟩ : ByteArray)) 3 0).bind fun t180 => (if t180 = true then ((vouchlaw21_wrong.f k6 x13_6 210 0).bind fun t181 => (vouchlaw21_CodeKnown.j6 k6 x4_1 x5_13 x6_37 x10_59 t181)) else (vouchlaw21_CodeKnown.j6 k6 x4_1 x5_13 x6_37 x10_59 false))) else (none)) else (vouchlaw21_CodeKnown.j6 k6 x4_1 x5_13 x6_37 x10_59 false))) else (none)) else (none)) else (vouchlaw21_CodeKnown.j6 k6 x4_1 x5_13 x6_37 x10_59 false)) = some r := H
                   have A108 := Aside0.mk A1080
                   clear A1080
                   by_cases c109 : t175 = 0
                   ·rw [if_pos c109] at H
                    have c109b0 : (t175 == 0) = true := beq_iff_eq.mpr c109
                    have c109b1 : (t175 != 0) = false := bne_eq_false_iff_eq.mpr c109
                    clear c109
                    by_cases c110 : 0 ≤ 1048568
                    ·rw [if_pos c110] at H
                     have c110b0 := eq_true c110
                     have c110b1 : decide (0 ≤ 1048568) = true := decide_eq_true c110
                     clear c110
                     by_cases c111 : 1048568 ≤ (x13_6.size : Int)
                     ·rw [if_pos c111] at H
                      have c111b0 := eq_true c111
                      have c111b1 : decide (1048568 ≤ (x13_6.size : Int)) = true := decide_eq_true c111
                      clear c111
                      obtain ⟨y176, hy176⟩ : ∃ y_ : List ByteArray, y_ = (([x13_6.extract 0 1048568] : List ByteArray)) := ⟨_, rfl⟩
                      replace H : ((code_Check.f k6 1 y176 ([] : List (S41)) 0).bind fun t179 => (if t179 = 3 then (if x13_6.size + 1 ≤ 9223372036854775807 then ((vouchlaw21_wrong.f k6 (x13_6 ++ (⟨#[120]⟩ : ByteArray)) 3 0).bind fun t180 => (if t180 = true then ((vouchlaw21_wrong.f k6 x13_6 210 0).bind fun t181 => (vouchlaw21_CodeKnown.j6 k6 x4_1 x5_13 x6_37 x10_59 t181)) else (vouchlaw21_CodeKnown.j6 k6 x4_1 x5_13 x6_37 x10_59 false))) else (none)) else (vouchlaw21_CodeKnown.j6 k6 x4_1 x5_13 x6_37 x10_59 false))) = some r := by first | (rw [hy176]; with_reducible exact H) | (have H2_ := (Option.bind_some _ _).symm.trans H; rw [hy176]; with_reducible exact H2_) | (have H2_ := (Option.bind_some _ _).symm.trans H; with_reducible exact H2_) | with_reducible exact H | (rw [hy176]; exact H) | exact H
                      have Ny176 := Aside0.mk hy176
                      clear hy176
                      replace H := Option.bind_eq_some_iff.mp H
                      obtain ⟨t179, A1120, H⟩ := H
                      replace H : (if t179 = 3 then (if x13_6.size + 1 ≤ 9223372036854775807 then ((vouchlaw21_wrong.f k6 (x13_6 ++ (⟨#[120]⟩ : ByteArray)) 3 0).bind fun t180 => (if t180 = true then ((vouchlaw21_wrong.f k6 x13_6 210 0).bind fun t181 => (vouchlaw21_CodeKnown.j6 k6 x4_1 x5_13 x6_37 x10_59 t181)) else (vouchlaw21_CodeKnown.j6 k6 x4_1 x5_13 x6_37 x10_59 false))) else (none)) else (vouchlaw21_CodeKnown.j6 k6 x4_1 x5_13 x6_37 x10_59 false)) = some r := H
                      have A112 := Aside0.mk A1120
                      clear A1120
                      by_cases c113 : t179 = 3
                      ·rw [if_pos c113] at H
                       have c113b0 : (t179 == 3) = true := beq_iff_eq.mpr c113
                       have c113b1 : (t179 != 3) = false := bne_eq_false_iff_eq.mpr c113
                       clear c113
                       by_cases c114 : x13_6.size + 1 ≤ 9223372036854775807
                       ·rw [if_pos c114] at H
                        have c114b0 := eq_true c114
                        have c114b1 : decide (x13_6.size + 1 ≤ 9223372036854775807) = true := decide_eq_true c114
                        try have c114b2 : (9223372036854775807 < x13_6.size + 1) = False := eq_false (Nat.not_lt.2 c114)
                        replace H := Option.bind_eq_some_iff.mp H
                        obtain ⟨t180, A1150, H⟩ := H
                        replace H : (if t180 = true then ((vouchlaw21_wrong.f k6 x13_6 210 0).bind fun t181 => (vouchlaw21_CodeKnown.j6 k6 x4_1 x5_13 x6_37 x10_59 t181)) else (vouchlaw21_CodeKnown.j6 k6 x4_1 x5_13 x6_37 x10_59 false)) = some r := H
                        have A115 := Aside0.mk A1150
                        clear A1150
                        by_cases c116 : t180 = true
                        ·subst c116
                         have H1 : ((vouchlaw21_wrong.f k6 x13_6 210 0).bind fun t181 => (vouchlaw21_CodeKnown.j6 k6 x4_1 x5_13 x6_37 x10_59 t181)) = some r := by rw [if_pos rfl] at H; exact H
                         clear H
                         have H := H1
                         clear H1
                         replace H := Option.bind_eq_some_iff.mp H
                         obtain ⟨t181, A1170, H⟩ := H
                         replace H : (vouchlaw21_CodeKnown.j6 k6 x4_1 x5_13 x6_37 x10_59 t181) = some r := H
                         have A117 := Aside0.mk A1170
                         clear A1170
                         have H' := Aside0.mk H
                         clear H
                         go_wp2_with (first | ((with_reducible refine gate_dst (N := 133) rfl ?_); (try (refine gate_guard (by rfl) ?_; dsimp only)); refine Kd.R_lit Kd.string _ 9 ?hg (N := 133) ?hd (xs := ([x13_6] : List ByteArray)) (inner := [.string x13_6]) (ok := fun _ => True) (okp := fun _ => True) ?hr ?hp (fun _ hk => hk) trivial (Below.refl _ _) (Nat.le_refl _) (by simp) ?_; (case hd => rfl); (case hg => rfl); (case hr => first | (go_simp; done) | (go_simp; rfl)); (case hp => exact (Reps.one (show Kd.M Kd.string _ _ _ x13_6 [.string x13_6] from rfl) (Reps.none _ _))); intro v169 w118 ho119 hb hg_ hnew_; clear hg_ hnew_; (first | rw [← Ny168.out] at ho119 | (simp only [Int.reduceToNat] at ho119; rw [← Ny168.out] at ho119)); have n0_ := Aside0.mk (Kd.R_elder' (kr HO_108001) (Kd.R_base ho119) hb); have n1_ := Aside0.mk (Kd.R_below (kr HO_108002) hb); have n2_ := Aside0.mk (Kd.R_elder' (kr HO_142001) (Kd.R_base ho119) hb); have n3_ := Aside0.mk (Kd.R_below (kr HO_142002) hb); have n4_ := Aside0.mk (Kd.R_lower (Kd.R_new' (Kd.R_new' ho119 (Kd.R_lt (kr HO_108001))) (Kd.R_lt (kr HO_142001))) (below_size (bl2 HB GE107 GE141))); have n5_ := Aside0.mk (blk_below (g := gb107) (o := .cells #[.int .u8 2, .slice Ao8 y101.length co8, .slice Ao7 y104.length co7, .int .i64 300] 25 (0, 0)) (bk BK107) hb); have n6_ := Aside0.mk (blk_below (g := gb141) (o := .cells #[.int .u8 t131, .slice Ao66 t132.length co66, .slice Ao67 t135.length co67, .int .i64 t138] 25 (0, 0)) (bk BK141) hb); have n7_ := Aside0.mk (below_step (bl2 HB GE107 GE141) hb); clear HO_108001; clear HO_108002; clear HO_142001; clear HO_142002; clear BK107; clear BK141; clear HB; have HO_108001 := n0_; have HO_108002 := n1_; have HO_142001 := n2_; have HO_142002 := n3_; have HO170 := n4_; have BK107 := n5_; have BK141 := n6_; have HB := n7_; clear n0_ n1_ n2_ n3_ n4_ n5_ n6_ n7_; clear hb ho119; obtain ⟨Ao120, co120, eo120⟩ := Kd.R_slice HO170.out; subst eo120) | ((with_reducible refine gate_callee (f := 13) rfl ?_); refine goesL_ (some 135) rfl rfl Try.func13 (by kernel_rfl) rfl #[.agg #[.int .u8 1, .slice Ao120 y168.length co120, .slice none 0 0, .int .i64 0]] rfl (by (try simp only [List.map_toArray, List.map_cons, List.map_nil]); first | done | rfl | (simp only [List.length_drop, List.length_take]; rfl)) ?_; (with_reducible refine (vouchlaw21_CodeKnown.check0 k6 1 _ _ y168 0 t171 _ ?side1 ?side2 A104.out).mono ?_); (case side1 => repeat (first | exact (Kd.R_reads' HO170.out).2.2 | (with_reducible refine Kd.C_alloc ?_ _) | (with_reducible refine Kd.C_drewN ?_ _) | (with_reducible refine Kd.C_drew ?_))); (case side2 => exact (Kd.R_reads' HO170.out).2.1); rintro e w121 ⟨rfl, hb⟩; refine ⟨_, rfl, ?_⟩; have n0_ := Aside0.mk (Kd.R_below (kr HO_108001) hb); have n1_ := Aside0.mk (Kd.R_below (kr HO_108002) hb); have n2_ := Aside0.mk (Kd.R_below (kr HO_142001) hb); have n3_ := Aside0.mk (Kd.R_below (kr HO_142002) hb); have n4_ := Aside0.mk (Kd.R_below (kr HO170) hb); have n5_ := Aside0.mk (blk_below (g := gb107) (o := .cells #[.int .u8 2, .slice Ao8 y101.length co8, .slice Ao7 y104.length co7, .int .i64 300] 25 (0, 0)) (bk BK107) hb); have n6_ := Aside0.mk (blk_below (g := gb141) (o := .cells #[.int .u8 t131, .slice Ao66 t132.length co66, .slice Ao67 t135.length co67, .int .i64 t138] 25 (0, 0)) (bk BK141) hb); have n7_ := Aside0.mk (below_step (bl2 HB GE107 GE141) hb); clear HO_108001; clear HO_108002; clear HO_142001; clear HO_142002; clear HO170; clear BK107; clear BK141; clear HB; have HO_108001 := n0_; have HO_108002 := n1_; have HO_142001 := n2_; have HO_142002 := n3_; have HO170 := n4_; have BK107 := n5_; have BK141 := n6_; have HB := n7_; clear n0_ n1_ n2_ n3_ n4_ n5_ n6_ n7_; (try clear hb); (try clear hb2); (try clear hk); (try clear hi)) | ((with_reducible refine gate_dst (N := 140) rfl ?_); (try (refine gate_guard (by rfl) ?_; dsimp only)); refine Kd.R_lit Kd.string _ 9 ?hg (N := 140) ?hd (xs := ([x13_6.extract 0 1048567] : List ByteArray)) (inner := [.string (x13_6.extract 0 1048567)]) (ok := fun _ => True) (okp := fun _ => True) ?hr ?hp (fun _ hk => hk) trivial (Below.refl _ _) (Nat.le_refl _) (by simp) ?_; (case hd => rfl); (case hg => rfl); (case hr => first | (go_simp; done) | (go_simp; rfl)); (case hp => exact (Reps.one (show Kd.M Kd.string _ _ _ (x13_6.extract 0 1048567) [.string (x13_6.extract 0 1048567)] from rfl) (Reps.none _ _))); intro v173 w122 ho123 hb hg_ hnew_; clear hg_ hnew_; (first | rw [← Ny172.out] at ho123 | (simp only [Int.reduceToNat] at ho123; rw [← Ny172.out] at ho123)); have n0_ := Aside0.mk (Kd.R_elder' (kr HO_108001) (Kd.R_base ho123) hb); have n1_ := Aside0.mk (Kd.R_below (kr HO_108002) hb); have n2_ := Aside0.mk (Kd.R_elder' (kr HO_142001) (Kd.R_base ho123) hb); have n3_ := Aside0.mk (Kd.R_below (kr HO_142002) hb); have n4_ := Aside0.mk (Kd.R_elder' (kr HO170) (Kd.R_base ho123) hb); have n5_ := Aside0.mk (Kd.R_lower (Kd.R_new' (Kd.R_new' (Kd.R_new' ho123 (Kd.R_lt (kr HO_108001))) (Kd.R_lt (kr HO_142001))) (Kd.R_lt (kr HO170))) (below_size (bl2 HB GE107 GE141))); have n6_ := Aside0.mk (blk_below (g := gb107) (o := .cells #[.int .u8 2, .slice Ao8 y101.length co8, .slice Ao7 y104.length co7, .int .i64 300] 25 (0, 0)) (bk BK107) hb); have n7_ := Aside0.mk (blk_below (g := gb141) (o := .cells #[.int .u8 t131, .slice Ao66 t132.length co66, .slice Ao67 t135.length co67, .int .i64 t138] 25 (0, 0)) (bk BK141) hb); have n8_ := Aside0.mk (below_step (bl2 HB GE107 GE141) hb); clear HO_108001; clear HO_108002; clear HO_142001; clear HO_142002; clear HO170; clear BK107; clear BK141; clear HB; have HO_108001 := n0_; have HO_108002 := n1_; have HO_142001 := n2_; have HO_142002 := n3_; have HO170 := n4_; have HO174 := n5_; have BK107 := n6_; have BK141 := n7_; have HB := n8_; clear n0_ n1_ n2_ n3_ n4_ n5_ n6_ n7_ n8_; clear hb ho123; obtain ⟨Ao124, co124, eo124⟩ := Kd.R_slice HO174.out; subst eo124) | (go_at_call 13; (with_reducible refine (vouchlaw21_CodeKnown.check0 k6 1 _ _ y172 0 t175 _ ?side1 ?side2 A108.out).mono ?_); (case side1 => repeat (first | exact (Kd.R_reads' HO174.out).2.2 | (with_reducible refine Kd.C_alloc ?_ _) | (with_reducible refine Kd.C_drewN ?_ _) | (with_reducible refine Kd.C_drew ?_))); (case side2 => exact (Kd.R_reads' HO174.out).2.1); rintro e w125 ⟨rfl, hb⟩; have n0_ := Aside0.mk (Kd.R_below (kr HO_108001) hb); have n1_ := Aside0.mk (Kd.R_below (kr HO_108002) hb); have n2_ := Aside0.mk (Kd.R_below (kr HO_142001) hb); have n3_ := Aside0.mk (Kd.R_below (kr HO_142002) hb); have n4_ := Aside0.mk (Kd.R_below (kr HO170) hb); have n5_ := Aside0.mk (Kd.R_below (kr HO174) hb); have n6_ := Aside0.mk (blk_below (g := gb107) (o := .cells #[.int .u8 2, .slice Ao8 y101.length co8, .slice Ao7 y104.length co7, .int .i64 300] 25 (0, 0)) (bk BK107) hb); have n7_ := Aside0.mk (blk_below (g := gb141) (o := .cells #[.int .u8 t131, .slice Ao66 t132.length co66, .slice Ao67 t135.length co67, .int .i64 t138] 25 (0, 0)) (bk BK141) hb); have n8_ := Aside0.mk (below_step (bl2 HB GE107 GE141) hb); clear HO_108001; clear HO_108002; clear HO_142001; clear HO_142002; clear HO170; clear HO174; clear BK107; clear BK141; clear HB; have HO_108001 := n0_; have HO_108002 := n1_; have HO_142001 := n2_; have HO_142002 := n3_; have HO170 := n4_; have HO174 := n5_; have BK107 := n6_; have BK141 := n7_; have HB := n8_; clear n0_ n1_ n2_ n3_ n4_ n5_ n6_ n7_ n8_; (try clear hb); (try clear hb2); (try clear hk); (try clear hi)) | ((with_reducible refine gate_dst (N := 148) rfl ?_); (try (refine gate_guard (by rfl) ?_; dsimp only)); refine Kd.R_lit Kd.string _ 9 ?hg (N := 148) ?hd (xs := ([x13_6.extract 0 1048568] : List ByteArray)) (inner := [.string (x13_6.extract 0 1048568)]) (ok := fun _ => True) (okp := fun _ => True) ?hr ?hp (fun _ hk => hk) trivial (Below.refl _ _) (Nat.le_refl _) (by simp) ?_; (case hd => rfl); (case hg => rfl); (case hr => first | (go_simp; done) | (go_simp; rfl)); (case hp => exact (Reps.one (show Kd.M Kd.string _ _ _ (x13_6.extract 0 1048568) [.string (x13_6.extract 0 1048568)] from rfl) (Reps.none _ _))); intro v177 w126 ho127 hb hg_ hnew_; clear hg_ hnew_; (first | rw [← Ny176.out] at ho127 | (simp only [Int.reduceToNat] at ho127; rw [← Ny176.out] at ho127)); have n0_ := Aside0.mk (Kd.R_elder' (kr HO_108001) (Kd.R_base ho127) hb); have n1_ := Aside0.mk (Kd.R_below (kr HO_108002) hb); have n2_ := Aside0.mk (Kd.R_elder' (kr HO_142001) (Kd.R_base ho127) hb); have n3_ := Aside0.mk (Kd.R_below (kr HO_142002) hb); have n4_ := Aside0.mk (Kd.R_elder' (kr HO170) (Kd.R_base ho127) hb); have n5_ := Aside0.mk (Kd.R_elder' (kr HO174) (Kd.R_base ho127) hb); have n6_ := Aside0.mk (Kd.R_lower (Kd.R_new' (Kd.R_new' (Kd.R_new' (Kd.R_new' ho127 (Kd.R_lt (kr HO_108001))) (Kd.R_lt (kr HO_142001))) (Kd.R_lt (kr HO170))) (Kd.R_lt (kr HO174))) (below_size (bl2 HB GE107 GE141))); have n7_ := Aside0.mk (blk_below (g := gb107) (o := .cells #[.int .u8 2, .slice Ao8 y101.length co8, .slice Ao7 y104.length co7, .int .i64 300] 25 (0, 0)) (bk BK107) hb); have n8_ := Aside0.mk (blk_below (g := gb141) (o := .cells #[.int .u8 t131, .slice Ao66 t132.length co66, .slice Ao67 t135.length co67, .int .i64 t138] 25 (0, 0)) (bk BK141) hb); have n9_ := Aside0.mk (below_step (bl2 HB GE107 GE141) hb); clear HO_108001; clear HO_108002; clear HO_142001; clear HO_142002; clear HO170; clear HO174; clear BK107; clear BK141; clear HB; have HO_108001 := n0_; have HO_108002 := n1_; have HO_142001 := n2_; have HO_142002 := n3_; have HO170 := n4_; have HO174 := n5_; have HO178 := n6_; have BK107 := n7_; have BK141 := n8_; have HB := n9_; clear n0_ n1_ n2_ n3_ n4_ n5_ n6_ n7_ n8_ n9_; clear hb ho127; obtain ⟨Ao128, co128, eo128⟩ := Kd.R_slice HO178.out; subst eo128) | (go_at_call 13; (with_reducible refine (vouchlaw21_CodeKnown.check0 k6 1 _ _ y176 0 t179 _ ?side1 ?side2 A112.out).mono ?_); (case side1 => repeat (first | exact (Kd.R_reads' HO178.out).2.2 | (with_reducible refine Kd.C_alloc ?_ _) | (with_reducible refine Kd.C_drewN ?_ _) | (with_reducible refine Kd.C_drew ?_))); (case side2 => exact (Kd.R_reads' HO178.out).2.1); rintro e w129 ⟨rfl, hb⟩; have n0_ := Aside0.mk (Kd.R_below (kr HO_108001) hb); have n1_ := Aside0.mk (Kd.R_below (kr HO_108002) hb); have n2_ := Aside0.mk (Kd.R_below (kr HO_142001) hb); have n3_ := Aside0.mk (Kd.R_below (kr HO_142002) hb); have n4_ := Aside0.mk (Kd.R_below (kr HO170) hb); have n5_ := Aside0.mk (Kd.R_below (kr HO174) hb); have n6_ := Aside0.mk (Kd.R_below (kr HO178) hb); have n7_ := Aside0.mk (blk_below (g := gb107) (o := .cells #[.int .u8 2, .slice Ao8 y101.length co8, .slice Ao7 y104.length co7, .int .i64 300] 25 (0, 0)) (bk BK107) hb); have n8_ := Aside0.mk (blk_below (g := gb141) (o := .cells #[.int .u8 t131, .slice Ao66 t132.length co66, .slice Ao67 t135.length co67, .int .i64 t138] 25 (0, 0)) (bk BK141) hb); have n9_ := Aside0.mk (below_step (bl2 HB GE107 GE141) hb); clear HO_108001; clear HO_108002; clear HO_142001; clear HO_142002; clear HO170; clear HO174; clear HO178; clear BK107; clear BK141; clear HB; have HO_108001 := n0_; have HO_108002 := n1_; have HO_142001 := n2_; have HO_142002 := n3_; have HO170 := n4_; have HO174 := n5_; have HO178 := n6_; have BK107 := n7_; have BK141 := n8_; have HB := n9_; clear n0_ n1_ n2_ n3_ n4_ n5_ n6_ n7_ n8_ n9_; (try clear hb); (try clear hb2); (try clear hk); (try clear hi)) | (go_at_call 22; (with_reducible refine (vouchlaw21_wrong.calls k6 (x13_6 ++ (⟨#[120]⟩ : ByteArray)) 3 0 true _ A115.out).mono ?_); rintro e w130 ⟨rfl, hb⟩; have n0_ := Aside0.mk (Kd.R_below (kr HO_108001) hb); have n1_ := Aside0.mk (Kd.R_below (kr HO_108002) hb); have n2_ := Aside0.mk (Kd.R_below (kr HO_142001) hb); have n3_ := Aside0.mk (Kd.R_below (kr HO_142002) hb); have n4_ := Aside0.mk (Kd.R_below (kr HO170) hb); have n5_ := Aside0.mk (Kd.R_below (kr HO174) hb); have n6_ := Aside0.mk (Kd.R_below (kr HO178) hb); have n7_ := Aside0.mk (blk_below (g := gb107) (o := .cells #[.int .u8 2, .slice Ao8 y101.length co8, .slice Ao7 y104.length co7, .int .i64 300] 25 (0, 0)) (bk BK107) hb); have n8_ := Aside0.mk (blk_below (g := gb141) (o := .cells #[.int .u8 t131, .slice Ao66 t132.length co66, .slice Ao67 t135.length co67, .int .i64 t138] 25 (0, 0)) (bk BK141) hb); have n9_ := Aside0.mk (below_step (bl2 HB GE107 GE141) hb); clear HO_108001; clear HO_108002; clear HO_142001; clear HO_142002; clear HO170; clear HO174; clear HO178; clear BK107; clear BK141; clear HB; have HO_108001 := n0_; have HO_108002 := n1_; have HO_142001 := n2_; have HO_142002 := n3_; have HO170 := n4_; have HO174 := n5_; have HO178 := n6_; have BK107 := n7_; have BK141 := n8_; have HB := n9_; clear n0_ n1_ n2_ n3_ n4_ n5_ n6_ n7_ n8_ n9_; (try clear hb); (try clear hb2); (try clear hk); (try clear hi)) | (go_at_call 22; (with_reducible refine (vouchlaw21_wrong.calls k6 x13_6 210 0 t181 _ A117.out).mono ?_); rintro e w131 ⟨rfl, hb⟩; have n0_ := Aside0.mk (Kd.R_below (kr HO_108001) hb); have n1_ := Aside0.mk (Kd.R_below (kr HO_108002) hb); have n2_ := Aside0.mk (Kd.R_below (kr HO_142001) hb); have n3_ := Aside0.mk (Kd.R_below (kr HO_142002) hb); have n4_ := Aside0.mk (Kd.R_below (kr HO170) hb); have n5_ := Aside0.mk (Kd.R_below (kr HO174) hb); have n6_ := Aside0.mk (Kd.R_below (kr HO178) hb); have n7_ := Aside0.mk (blk_below (g := gb107) (o := .cells #[.int .u8 2, .slice Ao8 y101.length co8, .slice Ao7 y104.length co7, .int .i64 300] 25 (0, 0)) (bk BK107) hb); have n8_ := Aside0.mk (blk_below (g := gb141) (o := .cells #[.int .u8 t131, .slice Ao66 t132.length co66, .slice Ao67 t135.length co67, .int .i64 t138] 25 (0, 0)) (bk BK141) hb); have n9_ := Aside0.mk (below_step (bl2 HB GE107 GE141) hb); clear HO_108001; clear HO_108002; clear HO_142001; clear HO_142002; clear HO170; clear HO174; clear HO178; clear BK107; clear BK141; clear HB; have HO_108001 := n0_; have HO_108002 := n1_; have HO_142001 := n2_; have HO_142002 := n3_; have HO170 := n4_; have HO174 := n5_; have HO178 := n6_; have BK107 := n7_; have BK141 := n8_; have HB := n9_; clear n0_ n1_ n2_ n3_ n4_ n5_ n6_ n7_ n8_ n9_; (try clear hb); (try clear hb2); (try clear hk); (try clear hi)))
                         go_meet
                         case rel => exact ⟨_, (t181), (by first | rfl | (simp; done) | (simp [*]; done)), H', ⟨by have := HJ1.out; have := HJ13.out; have := HJ37.out; have := HJ59.out; have := HK5.out; have := HK6.out; first | omega | exact Nat.le_refl _⟩, ⟨by (with_reducible repeat (first | apply Kd.R_alloc | apply Kd.R_drewN | apply Kd.R_drew)); exact Kd.R_mono HO_108001.out (fun _ hk => hk.1.1.1)⟩, ⟨by (with_reducible repeat (first | apply Kd.R_alloc | apply Kd.R_drewN | apply Kd.R_drew)); exact HO_108002.out⟩, ⟨by (with_reducible repeat (first | apply Kd.R_alloc | apply Kd.R_drewN | apply Kd.R_drew)); exact Kd.R_mono HO_142001.out (fun _ hk => hk.1.1.1)⟩, ⟨by (with_reducible repeat (first | apply Kd.R_alloc | apply Kd.R_drewN | apply Kd.R_drew)); exact HO_142002.out⟩, ⟨by (with_reducible repeat (first | refine blk_drewN ?_ _ | refine blk_drew ?_ | refine blk_alloc ?_ _)); exact BK107.out⟩, ⟨by (with_reducible repeat (first | refine blk_drewN ?_ _ | refine blk_drew ?_ | refine blk_alloc ?_ _)); exact BK141.out⟩, ⟨by repeat (first | (with_reducible first | exact HB.out | apply below_alloc | apply pw_below_drewN | apply below_drew1 | refine below_set ?_ GE107.out | refine below_set ?_ GE141.out) | exact HB.out)⟩⟩
                        ·replace c116 := Bool.eq_false_iff.mpr c116
                         subst c116
                         have H1 : (vouchlaw21_CodeKnown.j6 k6 x4_1 x5_13 x6_37 x10_59 false) = some r := by rw [if_neg (show ¬ (false = true) by decide)] at H; exact H
                         clear H
                         have H := H1
                         clear H1
                         exact absurd (vouchlaw21_CodeKnown.dead_j6 H (by first | rfl | simp)) (by rw [hr_]; decide)
                       ·rw [if_neg c114] at H
                        exact absurd H (by simp)
                      ·rw [if_neg c113] at H
                       have c113b0 : (t179 == 3) = false := beq_eq_false_iff_ne.mpr c113
                       have c113b1 : (t179 != 3) = true := bne_iff_ne.mpr c113
                       exact absurd (vouchlaw21_CodeKnown.dead_j6 H (by first | rfl | simp)) (by rw [hr_]; decide)
                     ·rw [if_neg c111] at H
                      exact absurd H (by simp)
                    ·rw [if_neg c110] at H
                     exact absurd H (by simp)
                   ·rw [if_neg c109] at H
                    have c109b0 : (t175 == 0) = false := beq_eq_false_iff_ne.mpr c109
                    have c109b1 : (t175 != 0) = true := bne_iff_ne.mpr c109
                    exact absurd (vouchlaw21_CodeKnown.dead_j6 H (by first | rfl | simp)) (by rw [hr_]; decide)
                  ·rw [if_neg c107] at H
                   exact absurd H (by simp)
                 ·rw [if_neg c106] at H
                  exact absurd H (by simp)
                ·rw [if_neg c105] at H
                 have c105b0 : (t171 == 3) = false := beq_eq_false_iff_ne.mpr c105
                 have c105b1 : (t171 != 3) = true := bne_iff_ne.mpr c105
                 (first | rw [c105b0] | (simp only [i64_w, i32_w]; rw [c105b0]) | skip)
                 exact absurd (vouchlaw21_CodeKnown.dead_j6 H (by first | rfl | simp)) (by rw [hr_]; decide)
               case rest =>
                clear HC103
                try clear c1
                try clear p1
                try clear q1
                try clear hx1
                try clear hcv1
                try clear c2
                try clear p2
                try clear c3
                try clear c4
                try clear c5
                try clear c6
                try clear p6
                try clear c9
                try clear c10
                try clear c11
                try clear c12
                try clear c12b0
                try clear c12b1
                try clear c13
                try clear hcv13
                try clear c16
                try clear p16
                try clear q16
                try clear hx16
                try clear c18
                try clear c20
                try clear c22
                try clear c24
                try clear c26
                try clear c28
                try clear c40
                try clear c42
                try clear c44
                try clear c46
                try clear c48
                try clear c50
                try clear c64
                try clear p64
                try clear c68
                try clear c68b0
                try clear c68b1
                try clear c69
                try clear c94
                try clear c94b0
                try clear c95
                try clear c95b0
                try clear c97
                try clear c97b0
                try clear c97b1
                try clear c101
                try clear c101b0
                try clear c101b1
                try clear c102
                try clear c102b0
                try clear c102b1
                try clear c102b2
                try clear c105
                try clear c105b0
                try clear c105b1
                try clear c106
                try clear c106b0
                try clear c106b1
                try clear c107
                try clear c107b0
                try clear c107b1
                try clear c109
                try clear c109b0
                try clear c109b1
                try clear c110
                try clear c110b0
                try clear c110b1
                try clear c111
                try clear c111b0
                try clear c111b1
                try clear c113
                try clear c113b0
                try clear c113b1
                try clear c114
                try clear c114b0
                try clear c114b1
                try clear c114b2
                try clear c116
                try clear hcz10_0
                try clear hcz10_1
                try clear hcz10_2
                try clear hcz10_3
                try clear hcz65_0
                try clear hcz65_1
                try clear hcz65_2
                try clear hcz65_3
                try clear hcz70_0
                try clear hcz70_1
                try clear hcz70_2
                try clear hcz70_3
                try clear hfz10_0
                try clear hfz10_1
                try clear hfz10_2
                try clear hfz10_3
                try clear hfz65_0
                try clear hfz65_1
                try clear hfz65_2
                try clear hfz65_3
                try clear hfz70_0
                try clear hfz70_1
                try clear hfz70_2
                try clear hfz70_3
                try clear hx166_0
                try clear hx166_1
                try clear hx166_2
                try clear hx166_3
                try clear p1
                try clear p16
                try clear p166
                try clear p2
                try clear p6
                try clear p64
                try clear q1
                try clear q16
                try clear q166
                obtain ⟨kq, x14_102, rfl, HA, HJ102, HO_108001, HO_108002, HO_142001, HO_142002, BK107, BK141, HB⟩ := hcut
                cases kq with
                | zero => exact absurd HA.out (by simp [vouchlaw21_CodeKnown.j6])
                | succ kj102 =>
                 have H := HA.out
                 clear HA
                 simp only [vouchlaw21_CodeKnown.j6] at H
                 by_cases c132 : 32769 ≤ 11728124029610
                 ·rw [if_pos c132] at H
                  have c132b0 := eq_true c132
                  have c132b1 : decide (32769 ≤ 11728124029610) = true := decide_eq_true c132
                  clear c132
                  obtain ⟨y182, hy182⟩ : ∃ y_ : List (S41), y_ = (List.replicate 32769 z41) := ⟨_, rfl⟩
                  replace H : ((code_Check.f kj102 0 ([] : List ByteArray) y182 0).bind fun t185 => (if t185 = 3 then (if 8193 ≤ 17592186044416 then ((code_Check.f kj102 0 (List.replicate 8193 (⟨#[]⟩ : ByteArray)) ([] : List (S41)) 0).bind fun t189 => (if t189 = 3 then (if 8192 ≤ 17592186044416 then ((code_Check.f kj102 2 (List.replicate 8192 (⟨#[]⟩ : ByteArray)) ([] : List (S41)) 0).bind fun t193 => (if x4_1 = true then (if x5_13 = true then (if x6_37 = true then (if x10_59 = true then (if x14_102 = true then (if t193 = 0 then ((vouchlaw21_works.f kj102).bind fun t194 => (some t194)) else (some false)) else (some false)) else (some false)) else (some false)) else (some false)) else (some false))) else (none)) else (if x4_1 = true then (if x5_13 = true then (if x6_37 = true then (if x10_59 = true then (if x14_102 = true then (some false) else (some false)) else (some false)) else (some false)) else (some false)) else (some false)))) else (none)) else (if x4_1 = true then (if x5_13 = true then (if x6_37 = true then (if x10_59 = true then (if x14_102 = true then (some false) else (some false)) else (some false)) else (some false)) else (some false)) else (some false)))) = some r := by first | (rw [hy182]; with_reducible exact H) | (have H2_ := (Option.bind_some _ _).symm.trans H; rw [hy182]; with_reducible exact H2_) | (have H2_ := (Option.bind_some _ _).symm.trans H; with_reducible exact H2_) | with_reducible exact H | (rw [hy182]; exact H) | exact H
                  have Ny182 := Aside0.mk hy182
                  clear hy182
                  replace H := Option.bind_eq_some_iff.mp H
                  obtain ⟨t185, A1330, H⟩ := H
                  replace H : (if t185 = 3 then (if 8193 ≤ 17592186044416 then ((code_Check.f kj102 0 (List.replicate 8193 (⟨#[]⟩ : ByteArray)) ([] : List (S41)) 0).bind fun t189 => (if t189 = 3 then (if 8192 ≤ 17592186044416 then ((code_Check.f kj102 2 (List.replicate 8192 (⟨#[]⟩ : ByteArray)) ([] : List (S41)) 0).bind fun t193 => (if x4_1 = true then (if x5_13 = true then (if x6_37 = true then (if x10_59 = true then (if x14_102 = true then (if t193 = 0 then ((vouchlaw21_works.f kj102).bind fun t194 => (some t194)) else (some false)) else (some false)) else (some false)) else (some false)) else (some false)) else (some false))) else (none)) else (if x4_1 = true then (if x5_13 = true then (if x6_37 = true then (if x10_59 = true then (if x14_102 = true then (some false) else (some false)) else (some false)) else (some false)) else (some false)) else (some false)))) else (none)) else (if x4_1 = true then (if x5_13 = true then (if x6_37 = true then (if x10_59 = true then (if x14_102 = true then (some false) else (some false)) else (some false)) else (some false)) else (some false)) else (some false))) = some r := H
                  have A133 := Aside0.mk A1330
                  clear A1330
                  by_cases c134 : t185 = 3
                  ·rw [if_pos c134] at H
                   have c134b0 : (t185 == 3) = true := beq_iff_eq.mpr c134
                   have c134b1 : (t185 != 3) = false := bne_eq_false_iff_eq.mpr c134
                   clear c134
                   by_cases c135 : 8193 ≤ 17592186044416
                   ·rw [if_pos c135] at H
                    have c135b0 := eq_true c135
                    have c135b1 : decide (8193 ≤ 17592186044416) = true := decide_eq_true c135
                    clear c135
                    obtain ⟨y186, hy186⟩ : ∃ y_ : List ByteArray, y_ = (List.replicate 8193 (⟨#[]⟩ : ByteArray)) := ⟨_, rfl⟩
                    replace H : ((code_Check.f kj102 0 y186 ([] : List (S41)) 0).bind fun t189 => (if t189 = 3 then (if 8192 ≤ 17592186044416 then ((code_Check.f kj102 2 (List.replicate 8192 (⟨#[]⟩ : ByteArray)) ([] : List (S41)) 0).bind fun t193 => (if x4_1 = true then (if x5_13 = true then (if x6_37 = true then (if x10_59 = true then (if x14_102 = true then (if t193 = 0 then ((vouchlaw21_works.f kj102).bind fun t194 => (some t194)) else (some false)) else (some false)) else (some false)) else (some false)) else (some false)) else (some false))) else (none)) else (if x4_1 = true then (if x5_13 = true then (if x6_37 = true then (if x10_59 = true then (if x14_102 = true then (some false) else (some false)) else (some false)) else (some false)) else (some false)) else (some false)))) = some r := by first | (rw [hy186]; with_reducible exact H) | (have H2_ := (Option.bind_some _ _).symm.trans H; rw [hy186]; with_reducible exact H2_) | (have H2_ := (Option.bind_some _ _).symm.trans H; with_reducible exact H2_) | with_reducible exact H | (rw [hy186]; exact H) | exact H
                    have Ny186 := Aside0.mk hy186
                    clear hy186
                    replace H := Option.bind_eq_some_iff.mp H
                    obtain ⟨t189, A1360, H⟩ := H
                    replace H : (if t189 = 3 then (if 8192 ≤ 17592186044416 then ((code_Check.f kj102 2 (List.replicate 8192 (⟨#[]⟩ : ByteArray)) ([] : List (S41)) 0).bind fun t193 => (if x4_1 = true then (if x5_13 = true then (if x6_37 = true then (if x10_59 = true then (if x14_102 = true then (if t193 = 0 then ((vouchlaw21_works.f kj102).bind fun t194 => (some t194)) else (some false)) else (some false)) else (some false)) else (some false)) else (some false)) else (some false))) else (none)) else (if x4_1 = true then (if x5_13 = true then (if x6_37 = true then (if x10_59 = true then (if x14_102 = true then (some false) else (some false)) else (some false)) else (some false)) else (some false)) else (some false))) = some r := H
                    have A136 := Aside0.mk A1360
                    clear A1360
                    by_cases c137 : t189 = 3
                    ·rw [if_pos c137] at H
                     have c137b0 : (t189 == 3) = true := beq_iff_eq.mpr c137
                     have c137b1 : (t189 != 3) = false := bne_eq_false_iff_eq.mpr c137
                     clear c137
                     by_cases c138 : 8192 ≤ 17592186044416
                     ·rw [if_pos c138] at H
                      have c138b0 := eq_true c138
                      have c138b1 : decide (8192 ≤ 17592186044416) = true := decide_eq_true c138
                      clear c138
                      obtain ⟨y190, hy190⟩ : ∃ y_ : List ByteArray, y_ = (List.replicate 8192 (⟨#[]⟩ : ByteArray)) := ⟨_, rfl⟩
                      replace H : ((code_Check.f kj102 2 y190 ([] : List (S41)) 0).bind fun t193 => (if x4_1 = true then (if x5_13 = true then (if x6_37 = true then (if x10_59 = true then (if x14_102 = true then (if t193 = 0 then ((vouchlaw21_works.f kj102).bind fun t194 => (some t194)) else (some false)) else (some false)) else (some false)) else (some false)) else (some false)) else (some false))) = some r := by first | (rw [hy190]; with_reducible exact H) | (have H2_ := (Option.bind_some _ _).symm.trans H; rw [hy190]; with_reducible exact H2_) | (have H2_ := (Option.bind_some _ _).symm.trans H; with_reducible exact H2_) | with_reducible exact H | (rw [hy190]; exact H) | exact H
                      have Ny190 := Aside0.mk hy190
                      clear hy190
                      replace H := Option.bind_eq_some_iff.mp H
                      obtain ⟨t193, A1390, H⟩ := H
                      replace H : (if x4_1 = true then (if x5_13 = true then (if x6_37 = true then (if x10_59 = true then (if x14_102 = true then (if t193 = 0 then ((vouchlaw21_works.f kj102).bind fun t194 => (some t194)) else (some false)) else (some false)) else (some false)) else (some false)) else (some false)) else (some false)) = some r := H
                      have A139 := Aside0.mk A1390
                      clear A1390
                      by_cases c140 : x4_1 = true
                      ·subst c140
                       have H1 : (if x5_13 = true then (if x6_37 = true then (if x10_59 = true then (if x14_102 = true then (if t193 = 0 then ((vouchlaw21_works.f kj102).bind fun t194 => (some t194)) else (some false)) else (some false)) else (some false)) else (some false)) else (some false)) = some r := by rw [if_pos rfl] at H; exact H
                       clear H
                       have H := H1
                       clear H1
                       by_cases c141 : x5_13 = true
                       ·subst c141
                        have H1 : (if x6_37 = true then (if x10_59 = true then (if x14_102 = true then (if t193 = 0 then ((vouchlaw21_works.f kj102).bind fun t194 => (some t194)) else (some false)) else (some false)) else (some false)) else (some false)) = some r := by rw [if_pos rfl] at H; exact H
                        clear H
                        have H := H1
                        clear H1
                        by_cases c142 : x6_37 = true
                        ·subst c142
                         have H1 : (if x10_59 = true then (if x14_102 = true then (if t193 = 0 then ((vouchlaw21_works.f kj102).bind fun t194 => (some t194)) else (some false)) else (some false)) else (some false)) = some r := by rw [if_pos rfl] at H; exact H
                         clear H
                         have H := H1
                         clear H1
                         by_cases c143 : x10_59 = true
                         ·subst c143
                          have H1 : (if x14_102 = true then (if t193 = 0 then ((vouchlaw21_works.f kj102).bind fun t194 => (some t194)) else (some false)) else (some false)) = some r := by rw [if_pos rfl] at H; exact H
                          clear H
                          have H := H1
                          clear H1
                          by_cases c144 : x14_102 = true
                          ·subst c144
                           have H1 : (if t193 = 0 then ((vouchlaw21_works.f kj102).bind fun t194 => (some t194)) else (some false)) = some r := by rw [if_pos rfl] at H; exact H
                           clear H
                           have H := H1
                           clear H1
                           by_cases c145 : t193 = 0
                           ·rw [if_pos c145] at H
                            have c145b0 : (t193 == 0) = true := beq_iff_eq.mpr c145
                            have c145b1 : (t193 != 0) = false := bne_eq_false_iff_eq.mpr c145
                            clear c145
                            replace H := Option.bind_eq_some_iff.mp H
                            obtain ⟨t194, A1460, H⟩ := H
                            replace H : (some t194) = some r := H
                            have A146 := Aside0.mk A1460
                            clear A1460
                            obtain rfl := Option.some.inj H
                            go_wp2_with (first | ((with_reducible refine gate_dst (N := 162) rfl ?_); (try (refine gate_guard (by rfl) ?_; dsimp only)); refine Kd.R_make k41 _ 41 rfl (N := 162) rfl 23 _ _ rfl 32769 rfl rfl Try.underlying23 (.agg #[(.int .u8 0), (.int .i64 0), (.int .i64 0)]) 24 info41 rfl (by decide) (by omega) z41 (ok := fun _ => True) (okp := fun _ => True) (k41_mkM _ _ _ z41 ) (fun _ hk => hk) trivial (by omega) (by omega) (Below.refl _ _) (Nat.le_refl _) ?_; intro v183 w147 ho148 hb hg_ hnew_; clear hg_ hnew_; (first | rw [← Ny182.out] at ho148 | (simp only [Int.reduceToNat] at ho148; rw [← Ny182.out] at ho148)); have n0_ := Aside0.mk (Kd.R_below (kr HO_108001) hb); have n1_ := Aside0.mk (Kd.R_elder' (kr HO_108002) (Kd.R_base ho148) hb); have n2_ := Aside0.mk (Kd.R_below (kr HO_142001) hb); have n3_ := Aside0.mk (Kd.R_elder' (kr HO_142002) (Kd.R_base ho148) hb); have n4_ := Aside0.mk (Kd.R_lower (Kd.R_new' (Kd.R_new' ho148 (Kd.R_lt (kr HO_108002))) (Kd.R_lt (kr HO_142002))) (below_size (bl2 HB GE107 GE141))); have n5_ := Aside0.mk (blk_below (g := gb107) (o := .cells #[.int .u8 2, .slice Ao8 y101.length co8, .slice Ao7 y104.length co7, .int .i64 300] 25 (0, 0)) (bk BK107) hb); have n6_ := Aside0.mk (blk_below (g := gb141) (o := .cells #[.int .u8 t131, .slice Ao66 t132.length co66, .slice Ao67 t135.length co67, .int .i64 t138] 25 (0, 0)) (bk BK141) hb); have n7_ := Aside0.mk (below_step (bl2 HB GE107 GE141) hb); clear HO_108001; clear HO_108002; clear HO_142001; clear HO_142002; clear BK107; clear BK141; clear HB; have HO_108001 := n0_; have HO_108002 := n1_; have HO_142001 := n2_; have HO_142002 := n3_; have HO184 := n4_; have BK107 := n5_; have BK141 := n6_; have HB := n7_; clear n0_ n1_ n2_ n3_ n4_ n5_ n6_ n7_; clear hb ho148; obtain ⟨Ao149, co149, eo149⟩ := Kd.R_slice HO184.out; subst eo149) | ((with_reducible refine gate_callee (f := 13) rfl ?_); refine goesL_ (some 164) rfl rfl Try.func13 (by kernel_rfl) rfl #[.agg #[.int .u8 0, .slice none 0 0, .slice Ao149 y182.length co149, .int .i64 0]] rfl (by (try simp only [List.map_toArray, List.map_cons, List.map_nil]); first | done | rfl | (simp only [List.length_drop, List.length_take]; rfl)) ?_; (refine (code_Check.calls kj102 0 _ _ ([] : List ByteArray) _ _ y182 0 t185 _ ?side1 ?side2 ?side3 ?side4 A133.out).mono ?_); (case side1 => exact Kd.C_nil _ _); (case side2 => exact Nat.le_refl _); (case side3 => repeat (first | exact (Kd.R_reads' HO184.out).2.2 | (with_reducible refine Kd.C_alloc ?_ _) | (with_reducible refine Kd.C_drewN ?_ _) | (with_reducible refine Kd.C_drew ?_))); (case side4 => exact (Kd.R_reads' HO184.out).2.1); rintro e w150 ⟨rfl, hb⟩; refine ⟨_, rfl, ?_⟩; have n0_ := Aside0.mk (Kd.R_below (kr HO_108001) hb); have n1_ := Aside0.mk (Kd.R_below (kr HO_108002) hb); have n2_ := Aside0.mk (Kd.R_below (kr HO_142001) hb); have n3_ := Aside0.mk (Kd.R_below (kr HO_142002) hb); have n4_ := Aside0.mk (Kd.R_below (kr HO184) hb); have n5_ := Aside0.mk (blk_below (g := gb107) (o := .cells #[.int .u8 2, .slice Ao8 y101.length co8, .slice Ao7 y104.length co7, .int .i64 300] 25 (0, 0)) (bk BK107) hb); have n6_ := Aside0.mk (blk_below (g := gb141) (o := .cells #[.int .u8 t131, .slice Ao66 t132.length co66, .slice Ao67 t135.length co67, .int .i64 t138] 25 (0, 0)) (bk BK141) hb); have n7_ := Aside0.mk (below_step (bl2 HB GE107 GE141) hb); clear HO_108001; clear HO_108002; clear HO_142001; clear HO_142002; clear HO184; clear BK107; clear BK141; clear HB; have HO_108001 := n0_; have HO_108002 := n1_; have HO_142001 := n2_; have HO_142002 := n3_; have HO184 := n4_; have BK107 := n5_; have BK141 := n6_; have HB := n7_; clear n0_ n1_ n2_ n3_ n4_ n5_ n6_ n7_; (try clear hb); (try clear hb2); (try clear hk); (try clear hi)) | ((with_reducible refine gate_dst (N := 167) rfl ?_); (try (refine gate_guard (by rfl) ?_; dsimp only)); refine Kd.R_make Kd.string _ 9 rfl (N := 167) rfl 22 _ _ rfl 8193 rfl rfl Try.underlying22 (.string ⟨#[]⟩) 16 info9 rfl (by decide) (by omega) (⟨#[]⟩ : ByteArray) (ok := fun _ => True) (okp := fun _ => True) rfl (fun _ hk => hk) trivial (by omega) (by omega) (Below.refl _ _) (Nat.le_refl _) ?_; intro v187 w151 ho152 hb hg_ hnew_; clear hg_ hnew_; (first | rw [← Ny186.out] at ho152 | (simp only [Int.reduceToNat] at ho152; rw [← Ny186.out] at ho152)); have n0_ := Aside0.mk (Kd.R_elder' (kr HO_108001) (Kd.R_base ho152) hb); have n1_ := Aside0.mk (Kd.R_below (kr HO_108002) hb); have n2_ := Aside0.mk (Kd.R_elder' (kr HO_142001) (Kd.R_base ho152) hb); have n3_ := Aside0.mk (Kd.R_below (kr HO_142002) hb); have n4_ := Aside0.mk (Kd.R_below (kr HO184) hb); have n5_ := Aside0.mk (Kd.R_lower (Kd.R_new' (Kd.R_new' ho152 (Kd.R_lt (kr HO_108001))) (Kd.R_lt (kr HO_142001))) (below_size (bl2 HB GE107 GE141))); have n6_ := Aside0.mk (blk_below (g := gb107) (o := .cells #[.int .u8 2, .slice Ao8 y101.length co8, .slice Ao7 y104.length co7, .int .i64 300] 25 (0, 0)) (bk BK107) hb); have n7_ := Aside0.mk (blk_below (g := gb141) (o := .cells #[.int .u8 t131, .slice Ao66 t132.length co66, .slice Ao67 t135.length co67, .int .i64 t138] 25 (0, 0)) (bk BK141) hb); have n8_ := Aside0.mk (below_step (bl2 HB GE107 GE141) hb); clear HO_108001; clear HO_108002; clear HO_142001; clear HO_142002; clear HO184; clear BK107; clear BK141; clear HB; have HO_108001 := n0_; have HO_108002 := n1_; have HO_142001 := n2_; have HO_142002 := n3_; have HO184 := n4_; have HO188 := n5_; have BK107 := n6_; have BK141 := n7_; have HB := n8_; clear n0_ n1_ n2_ n3_ n4_ n5_ n6_ n7_ n8_; clear hb ho152; obtain ⟨Ao153, co153, eo153⟩ := Kd.R_slice HO188.out; subst eo153) | (go_at_call 13; (with_reducible refine (vouchlaw21_CodeKnown.check0 kj102 0 _ _ y186 0 t189 _ ?side1 ?side2 A136.out).mono ?_); (case side1 => repeat (first | exact (Kd.R_reads' HO188.out).2.2 | (with_reducible refine Kd.C_alloc ?_ _) | (with_reducible refine Kd.C_drewN ?_ _) | (with_reducible refine Kd.C_drew ?_))); (case side2 => exact (Kd.R_reads' HO188.out).2.1); rintro e w154 ⟨rfl, hb⟩; have n0_ := Aside0.mk (Kd.R_below (kr HO_108001) hb); have n1_ := Aside0.mk (Kd.R_below (kr HO_108002) hb); have n2_ := Aside0.mk (Kd.R_below (kr HO_142001) hb); have n3_ := Aside0.mk (Kd.R_below (kr HO_142002) hb); have n4_ := Aside0.mk (Kd.R_below (kr HO184) hb); have n5_ := Aside0.mk (Kd.R_below (kr HO188) hb); have n6_ := Aside0.mk (blk_below (g := gb107) (o := .cells #[.int .u8 2, .slice Ao8 y101.length co8, .slice Ao7 y104.length co7, .int .i64 300] 25 (0, 0)) (bk BK107) hb); have n7_ := Aside0.mk (blk_below (g := gb141) (o := .cells #[.int .u8 t131, .slice Ao66 t132.length co66, .slice Ao67 t135.length co67, .int .i64 t138] 25 (0, 0)) (bk BK141) hb); have n8_ := Aside0.mk (below_step (bl2 HB GE107 GE141) hb); clear HO_108001; clear HO_108002; clear HO_142001; clear HO_142002; clear HO184; clear HO188; clear BK107; clear BK141; clear HB; have HO_108001 := n0_; have HO_108002 := n1_; have HO_142001 := n2_; have HO_142002 := n3_; have HO184 := n4_; have HO188 := n5_; have BK107 := n6_; have BK141 := n7_; have HB := n8_; clear n0_ n1_ n2_ n3_ n4_ n5_ n6_ n7_ n8_; (try clear hb); (try clear hb2); (try clear hk); (try clear hi)) | ((with_reducible refine gate_dst (N := 173) rfl ?_); (try (refine gate_guard (by rfl) ?_; dsimp only)); refine Kd.R_make Kd.string _ 9 rfl (N := 173) rfl 22 _ _ rfl 8192 rfl rfl Try.underlying22 (.string ⟨#[]⟩) 16 info9 rfl (by decide) (by omega) (⟨#[]⟩ : ByteArray) (ok := fun _ => True) (okp := fun _ => True) rfl (fun _ hk => hk) trivial (by omega) (by omega) (Below.refl _ _) (Nat.le_refl _) ?_; intro v191 w155 ho156 hb hg_ hnew_; clear hg_ hnew_; (first | rw [← Ny190.out] at ho156 | (simp only [Int.reduceToNat] at ho156; rw [← Ny190.out] at ho156)); have n0_ := Aside0.mk (Kd.R_elder' (kr HO_108001) (Kd.R_base ho156) hb); have n1_ := Aside0.mk (Kd.R_below (kr HO_108002) hb); have n2_ := Aside0.mk (Kd.R_elder' (kr HO_142001) (Kd.R_base ho156) hb); have n3_ := Aside0.mk (Kd.R_below (kr HO_142002) hb); have n4_ := Aside0.mk (Kd.R_below (kr HO184) hb); have n5_ := Aside0.mk (Kd.R_elder' (kr HO188) (Kd.R_base ho156) hb); have n6_ := Aside0.mk (Kd.R_lower (Kd.R_new' (Kd.R_new' (Kd.R_new' ho156 (Kd.R_lt (kr HO_108001))) (Kd.R_lt (kr HO_142001))) (Kd.R_lt (kr HO188))) (below_size (bl2 HB GE107 GE141))); have n7_ := Aside0.mk (blk_below (g := gb107) (o := .cells #[.int .u8 2, .slice Ao8 y101.length co8, .slice Ao7 y104.length co7, .int .i64 300] 25 (0, 0)) (bk BK107) hb); have n8_ := Aside0.mk (blk_below (g := gb141) (o := .cells #[.int .u8 t131, .slice Ao66 t132.length co66, .slice Ao67 t135.length co67, .int .i64 t138] 25 (0, 0)) (bk BK141) hb); have n9_ := Aside0.mk (below_step (bl2 HB GE107 GE141) hb); clear HO_108001; clear HO_108002; clear HO_142001; clear HO_142002; clear HO184; clear HO188; clear BK107; clear BK141; clear HB; have HO_108001 := n0_; have HO_108002 := n1_; have HO_142001 := n2_; have HO_142002 := n3_; have HO184 := n4_; have HO188 := n5_; have HO192 := n6_; have BK107 := n7_; have BK141 := n8_; have HB := n9_; clear n0_ n1_ n2_ n3_ n4_ n5_ n6_ n7_ n8_ n9_; clear hb ho156; obtain ⟨Ao157, co157, eo157⟩ := Kd.R_slice HO192.out; subst eo157) | (go_at_call 13; (with_reducible refine (vouchlaw21_CodeKnown.check0 kj102 2 _ _ y190 0 t193 _ ?side1 ?side2 A139.out).mono ?_); (case side1 => repeat (first | exact (Kd.R_reads' HO192.out).2.2 | (with_reducible refine Kd.C_alloc ?_ _) | (with_reducible refine Kd.C_drewN ?_ _) | (with_reducible refine Kd.C_drew ?_))); (case side2 => exact (Kd.R_reads' HO192.out).2.1); rintro e w158 ⟨rfl, hb⟩; have n0_ := Aside0.mk (Kd.R_below (kr HO_108001) hb); have n1_ := Aside0.mk (Kd.R_below (kr HO_108002) hb); have n2_ := Aside0.mk (Kd.R_below (kr HO_142001) hb); have n3_ := Aside0.mk (Kd.R_below (kr HO_142002) hb); have n4_ := Aside0.mk (Kd.R_below (kr HO184) hb); have n5_ := Aside0.mk (Kd.R_below (kr HO188) hb); have n6_ := Aside0.mk (Kd.R_below (kr HO192) hb); have n7_ := Aside0.mk (blk_below (g := gb107) (o := .cells #[.int .u8 2, .slice Ao8 y101.length co8, .slice Ao7 y104.length co7, .int .i64 300] 25 (0, 0)) (bk BK107) hb); have n8_ := Aside0.mk (blk_below (g := gb141) (o := .cells #[.int .u8 t131, .slice Ao66 t132.length co66, .slice Ao67 t135.length co67, .int .i64 t138] 25 (0, 0)) (bk BK141) hb); have n9_ := Aside0.mk (below_step (bl2 HB GE107 GE141) hb); clear HO_108001; clear HO_108002; clear HO_142001; clear HO_142002; clear HO184; clear HO188; clear HO192; clear BK107; clear BK141; clear HB; have HO_108001 := n0_; have HO_108002 := n1_; have HO_142001 := n2_; have HO_142002 := n3_; have HO184 := n4_; have HO188 := n5_; have HO192 := n6_; have BK107 := n7_; have BK141 := n8_; have HB := n9_; clear n0_ n1_ n2_ n3_ n4_ n5_ n6_ n7_ n8_ n9_; (try clear hb); (try clear hb2); (try clear hk); (try clear hi)) | (go_at_call 10; (with_reducible refine (vouchlaw21_works.calls kj102  t194 _ A146.out).mono ?_); rintro e w159 ⟨rfl, hb⟩; have n0_ := Aside0.mk (Kd.R_below (kr HO_108001) hb); have n1_ := Aside0.mk (Kd.R_below (kr HO_108002) hb); have n2_ := Aside0.mk (Kd.R_below (kr HO_142001) hb); have n3_ := Aside0.mk (Kd.R_below (kr HO_142002) hb); have n4_ := Aside0.mk (Kd.R_below (kr HO184) hb); have n5_ := Aside0.mk (Kd.R_below (kr HO188) hb); have n6_ := Aside0.mk (Kd.R_below (kr HO192) hb); have n7_ := Aside0.mk (blk_below (g := gb107) (o := .cells #[.int .u8 2, .slice Ao8 y101.length co8, .slice Ao7 y104.length co7, .int .i64 300] 25 (0, 0)) (bk BK107) hb); have n8_ := Aside0.mk (blk_below (g := gb141) (o := .cells #[.int .u8 t131, .slice Ao66 t132.length co66, .slice Ao67 t135.length co67, .int .i64 t138] 25 (0, 0)) (bk BK141) hb); have n9_ := Aside0.mk (below_step (bl2 HB GE107 GE141) hb); clear HO_108001; clear HO_108002; clear HO_142001; clear HO_142002; clear HO184; clear HO188; clear HO192; clear BK107; clear BK141; clear HB; have HO_108001 := n0_; have HO_108002 := n1_; have HO_142001 := n2_; have HO_142002 := n3_; have HO184 := n4_; have HO188 := n5_; have HO192 := n6_; have BK107 := n7_; have BK141 := n8_; have HB := n9_; clear n0_ n1_ n2_ n3_ n4_ n5_ n6_ n7_ n8_ n9_; (try clear hb); (try clear hb2); (try clear hk); (try clear hi)))
                            go_ret
                            exact ⟨by first | rfl | (simp [errW_none, errW_some] <;> rfl) | (simp [*, errW_none, errW_some] <;> rfl), by repeat (first | (with_reducible first | exact HB.out | apply below_alloc | apply pw_below_drewN | apply below_drew1 | refine below_set ?_ GE107.out | refine below_set ?_ GE141.out) | exact HB.out)⟩
                           ·rw [if_neg c145] at H
                            have c145b0 : (t193 == 0) = false := beq_eq_false_iff_ne.mpr c145
                            have c145b1 : (t193 != 0) = true := bne_iff_ne.mpr c145
                            exact absurd (Option.some.inj H) (by rw [hr_]; decide)
                          ·replace c144 := Bool.eq_false_iff.mpr c144
                           subst c144
                           have H1 : (some false) = some r := by rw [if_neg (show ¬ (false = true) by decide)] at H; exact H
                           clear H
                           have H := H1
                           clear H1
                           exact absurd (Option.some.inj H) (by rw [hr_]; decide)
                         ·replace c143 := Bool.eq_false_iff.mpr c143
                          subst c143
                          have H1 : (some false) = some r := by rw [if_neg (show ¬ (false = true) by decide)] at H; exact H
                          clear H
                          have H := H1
                          clear H1
                          exact absurd (Option.some.inj H) (by rw [hr_]; decide)
                        ·replace c142 := Bool.eq_false_iff.mpr c142
                         subst c142
                         have H1 : (some false) = some r := by rw [if_neg (show ¬ (false = true) by decide)] at H; exact H
                         clear H
                         have H := H1
                         clear H1
                         exact absurd (Option.some.inj H) (by rw [hr_]; decide)
                       ·replace c141 := Bool.eq_false_iff.mpr c141
                        subst c141
                        have H1 : (some false) = some r := by rw [if_neg (show ¬ (false = true) by decide)] at H; exact H
                        clear H
                        have H := H1
                        clear H1
                        exact absurd (Option.some.inj H) (by rw [hr_]; decide)
                      ·replace c140 := Bool.eq_false_iff.mpr c140
                       subst c140
                       have H1 : (some false) = some r := by rw [if_neg (show ¬ (false = true) by decide)] at H; exact H
                       clear H
                       have H := H1
                       clear H1
                       exact absurd (Option.some.inj H) (by rw [hr_]; decide)
                     ·rw [if_neg c138] at H
                      exact absurd H (by simp)
                    ·rw [if_neg c137] at H
                     have c137b0 : (t189 == 3) = false := beq_eq_false_iff_ne.mpr c137
                     have c137b1 : (t189 != 3) = true := bne_iff_ne.mpr c137
                     by_cases c160 : x4_1 = true
                     ·subst c160
                      have H1 : (if x5_13 = true then (if x6_37 = true then (if x10_59 = true then (if x14_102 = true then (some false) else (some false)) else (some false)) else (some false)) else (some false)) = some r := by rw [if_pos rfl] at H; exact H
                      clear H
                      have H := H1
                      clear H1
                      by_cases c161 : x5_13 = true
                      ·subst c161
                       have H1 : (if x6_37 = true then (if x10_59 = true then (if x14_102 = true then (some false) else (some false)) else (some false)) else (some false)) = some r := by rw [if_pos rfl] at H; exact H
                       clear H
                       have H := H1
                       clear H1
                       by_cases c162 : x6_37 = true
                       ·subst c162
                        have H1 : (if x10_59 = true then (if x14_102 = true then (some false) else (some false)) else (some false)) = some r := by rw [if_pos rfl] at H; exact H
                        clear H
                        have H := H1
                        clear H1
                        by_cases c163 : x10_59 = true
                        ·subst c163
                         have H1 : (if x14_102 = true then (some false) else (some false)) = some r := by rw [if_pos rfl] at H; exact H
                         clear H
                         have H := H1
                         clear H1
                         by_cases c164 : x14_102 = true
                         ·subst c164
                          have H1 : (some false) = some r := by rw [if_pos rfl] at H; exact H
                          clear H
                          have H := H1
                          clear H1
                          exact absurd (Option.some.inj H) (by rw [hr_]; decide)
                         ·replace c164 := Bool.eq_false_iff.mpr c164
                          subst c164
                          have H1 : (some false) = some r := by rw [if_neg (show ¬ (false = true) by decide)] at H; exact H
                          clear H
                          have H := H1
                          clear H1
                          exact absurd (Option.some.inj H) (by rw [hr_]; decide)
                        ·replace c163 := Bool.eq_false_iff.mpr c163
                         subst c163
                         have H1 : (some false) = some r := by rw [if_neg (show ¬ (false = true) by decide)] at H; exact H
                         clear H
                         have H := H1
                         clear H1
                         exact absurd (Option.some.inj H) (by rw [hr_]; decide)
                       ·replace c162 := Bool.eq_false_iff.mpr c162
                        subst c162
                        have H1 : (some false) = some r := by rw [if_neg (show ¬ (false = true) by decide)] at H; exact H
                        clear H
                        have H := H1
                        clear H1
                        exact absurd (Option.some.inj H) (by rw [hr_]; decide)
                      ·replace c161 := Bool.eq_false_iff.mpr c161
                       subst c161
                       have H1 : (some false) = some r := by rw [if_neg (show ¬ (false = true) by decide)] at H; exact H
                       clear H
                       have H := H1
                       clear H1
                       exact absurd (Option.some.inj H) (by rw [hr_]; decide)
                     ·replace c160 := Bool.eq_false_iff.mpr c160
                      subst c160
                      have H1 : (some false) = some r := by rw [if_neg (show ¬ (false = true) by decide)] at H; exact H
                      clear H
                      have H := H1
                      clear H1
                      exact absurd (Option.some.inj H) (by rw [hr_]; decide)
                   ·rw [if_neg c135] at H
                    exact absurd H (by simp)
                  ·rw [if_neg c134] at H
                   have c134b0 : (t185 == 3) = false := beq_eq_false_iff_ne.mpr c134
                   have c134b1 : (t185 != 3) = true := bne_iff_ne.mpr c134
                   by_cases c165 : x4_1 = true
                   ·subst c165
                    have H1 : (if x5_13 = true then (if x6_37 = true then (if x10_59 = true then (if x14_102 = true then (some false) else (some false)) else (some false)) else (some false)) else (some false)) = some r := by rw [if_pos rfl] at H; exact H
                    clear H
                    have H := H1
                    clear H1
                    by_cases c166 : x5_13 = true
                    ·subst c166
                     have H1 : (if x6_37 = true then (if x10_59 = true then (if x14_102 = true then (some false) else (some false)) else (some false)) else (some false)) = some r := by rw [if_pos rfl] at H; exact H
                     clear H
                     have H := H1
                     clear H1
                     by_cases c167 : x6_37 = true
                     ·subst c167
                      have H1 : (if x10_59 = true then (if x14_102 = true then (some false) else (some false)) else (some false)) = some r := by rw [if_pos rfl] at H; exact H
                      clear H
                      have H := H1
                      clear H1
                      by_cases c168 : x10_59 = true
                      ·subst c168
                       have H1 : (if x14_102 = true then (some false) else (some false)) = some r := by rw [if_pos rfl] at H; exact H
                       clear H
                       have H := H1
                       clear H1
                       by_cases c169 : x14_102 = true
                       ·subst c169
                        have H1 : (some false) = some r := by rw [if_pos rfl] at H; exact H
                        clear H
                        have H := H1
                        clear H1
                        exact absurd (Option.some.inj H) (by rw [hr_]; decide)
                       ·replace c169 := Bool.eq_false_iff.mpr c169
                        subst c169
                        have H1 : (some false) = some r := by rw [if_neg (show ¬ (false = true) by decide)] at H; exact H
                        clear H
                        have H := H1
                        clear H1
                        exact absurd (Option.some.inj H) (by rw [hr_]; decide)
                      ·replace c168 := Bool.eq_false_iff.mpr c168
                       subst c168
                       have H1 : (some false) = some r := by rw [if_neg (show ¬ (false = true) by decide)] at H; exact H
                       clear H
                       have H := H1
                       clear H1
                       exact absurd (Option.some.inj H) (by rw [hr_]; decide)
                     ·replace c167 := Bool.eq_false_iff.mpr c167
                      subst c167
                      have H1 : (some false) = some r := by rw [if_neg (show ¬ (false = true) by decide)] at H; exact H
                      clear H
                      have H := H1
                      clear H1
                      exact absurd (Option.some.inj H) (by rw [hr_]; decide)
                    ·replace c166 := Bool.eq_false_iff.mpr c166
                     subst c166
                     have H1 : (some false) = some r := by rw [if_neg (show ¬ (false = true) by decide)] at H; exact H
                     clear H
                     have H := H1
                     clear H1
                     exact absurd (Option.some.inj H) (by rw [hr_]; decide)
                   ·replace c165 := Bool.eq_false_iff.mpr c165
                    subst c165
                    have H1 : (some false) = some r := by rw [if_neg (show ¬ (false = true) by decide)] at H; exact H
                    clear H
                    have H := H1
                    clear H1
                    exact absurd (Option.some.inj H) (by rw [hr_]; decide)
                 ·rw [if_neg c132] at H
                  exact absurd H (by simp)

end Go.Proofs.Ytmhmappdohddeaa.H
