-- WRITTEN BY A PROGRAM OF THIS SESSION (hprint.py, compress.py), out of the translation. Lean checks it.
import Derived.Test.YtmhmappdohddeaaHx0
import Derived.Test.YtmhmappdohddeaaWStep
import Derived.Test.YtmhmappdohddeaaHcodeof
import Derived.Test.YtmhmappdohddeaaHcodesourcefail
import Derived.Test.YtmhmappdohddeaaHoctetK
import Derived.Test.YtmhmappdohddeaaHoctetO
import Derived.Test.YtmhmappdohddeaaHcodesourcenumber
import Derived.Test.YtmhmappdohddeaaHcodesourcetext
import Derived.Test.YtmhmappdohddeaaHand
namespace Go.Proofs.Ytmhmappdohddeaa.H
open Go.RowKit Go.Proofs.YtmhmappdohddeaaW.PrintWords Go.Proofs.YtmhmappdohddeaaW.PrintLast Go.Proofs.YtmhmappdohddeaaW.PrintMore
attribute [local go_sem] max2_int min2_int max_two min_two max_three min_three max_four min_four   -- for this text's walks alone
set_option linter.unusedVariables false
set_option linter.unusedSimpArgs false

/-! ### code_Decode: function 20 -/
mutual
def code_Decode.j1 : Nat → List Int → List Int → Int → Int → Int → Int → List ByteArray → Int → Option (Int × List ByteArray × (List (S41)) × Int × Int × Int)
 | 0, _, _, _, _, _, _, _, _ => none
 | k + 1, x0, x103000, x103001, x103002, x103003, x112000, x112001, x112003 => (code_source_number.f k x103000 x103001 x103002 x103003 32768).bind fun bt131 => (code_Decode.l1 k x0 bt131.1 x103000 bt131.2.1 bt131.2.2.1 bt131.2.2.2 x112000 x112001 ([] : List (S41)) x112003)
def code_Decode.l1 : Nat → List Int → Int → List Int → Int → Int → Int → Int → List ByteArray → List (S41) → Int → Option (Int × List ByteArray × (List (S41)) × Int × Int × Int)
 | 0, _, _, _, _, _, _, _, _, _, _ => none
 | k + 1, x0, x9, x103000, x103001, x103002, x103003, x112000, x112001, x112002, x112003 => if x9 > 0 then (code_Decode.j3 k x0 x9 (x103002 == 0) x103000 x103001 x103002 x103003 x112000 x112001 x112002 x112003) else (code_Decode.j3 k x0 x9 false x103000 x103001 x103002 x103003 x112000 x112001 x112002 x112003)
def code_Decode.j3 : Nat → List Int → Int → Bool → List Int → Int → Int → Int → Int → List ByteArray → List (S41) → Int → Option (Int × List ByteArray × (List (S41)) × Int × Int × Int)
 | 0, _, _, _, _, _, _, _, _, _, _, _ => none
 | k + 1, x0, x9, x62, x103000, x103001, x103002, x103003, x112000, x112001, x112002, x112003 => if x62 = true then ((octetO.f x103000 x103001 x103002 x103003).bind fun bt135 => ((code_of.f k bt135.1).bind fun t140 => (if (Go.bits .and .u8 t140 1) = 0 then (code_Decode.j4 k x0 x9 x103000 bt135.2.1 bt135.2.2.1 bt135.2.2.2 x112000 x112001 x112002 x112003 bt135.1 0 0) else ((code_source_number.f k x103000 bt135.2.1 bt135.2.2.1 bt135.2.2.2 2147483647).bind fun bt141 => (code_Decode.j4 k x0 x9 x103000 bt141.2.1 bt141.2.2.1 bt141.2.2.2 x112000 x112001 x112002 x112003 bt135.1 bt141.1 0))))) else (if x103001 < (x0.length : Int) then ((code_source_fail.f x103000 x103001 x103002 x103003 210 x103001).bind fun bt156 => (if bt156.2.1 = 0 then (some (x112000, x112001, x112002, x112003, 0, 0)) else (some (0, ([] : List ByteArray), ([] : List (S41)), 0, bt156.2.2, bt156.2.1)))) else (if x103002 = 0 then (some (x112000, x112001, x112002, x112003, 0, 0)) else (some (0, ([] : List ByteArray), ([] : List (S41)), 0, x103003, x103002))))
def code_Decode.j4 : Nat → List Int → Int → List Int → Int → Int → Int → Int → List ByteArray → List (S41) → Int → Int → Int → Int → Option (Int × List ByteArray × (List (S41)) × Int × Int × Int)
 | 0, _, _, _, _, _, _, _, _, _, _, _, _, _ => none
 | k + 1, x0, x9, x103000, x103001, x103002, x103003, x112000, x112001, x112002, x112003, x140000, x140001, x140002 => (code_of.f k x140000).bind fun t145 => (if (Go.bits .and .u8 t145 2) = 0 then (if x112002.length < 5864062014805 then (code_Decode.l1 k x0 (wrap64 (x9 - 1)) x103000 x103001 x103002 x103003 x112000 x112001 (x112002 ++ [(⟨x140000, x140001, x140002⟩ : S41)]) x112003) else (none)) else ((code_source_number.f k x103000 x103001 x103002 x103003 2147483647).bind fun bt149 => (if x112002.length < 5864062014805 then (code_Decode.l1 k x0 (wrap64 (x9 - 1)) x103000 bt149.2.1 bt149.2.2.1 bt149.2.2.2 x112000 x112001 (x112002 ++ [(⟨x140000, x140001, bt149.1⟩ : S41)]) x112003) else (none))))
def code_Decode.l0 : Nat → List Int → Int → List Int → Int → Int → Int → Int → List ByteArray → Int → Option (Int × List ByteArray × (List (S41)) × Int × Int × Int)
 | 0, _, _, _, _, _, _, _, _, _ => none
 | k + 1, x0, x8, x103000, x103001, x103002, x103003, x112000, x112001, x112003 => if x8 > 0 then (if x103002 = 0 then ((code_source_text.f k x103000 x103001 x103002 x103003).bind fun bt124 => (if x112001.length < 8796093022208 then (code_Decode.l0 k x0 (wrap64 (x8 - 1)) x103000 bt124.2.1 bt124.2.2.1 bt124.2.2.2 x112000 (x112001 ++ [bt124.1]) x112003) else (none))) else (code_Decode.j1 k x0 x103000 x103001 x103002 x103003 x112000 x112001 x112003)) else (code_Decode.j1 k x0 x103000 x103001 x103002 x103003 x112000 x112001 x112003)
end
def code_Decode.f (k : Nat) (l0 : List Int) : Option (Int × List ByteArray × (List (S41)) × Int × Int × Int) := if (l0.length : Int) > 1048576 then (some (0, ([] : List ByteArray), ([] : List (S41)), 0, 0, 3)) else ((octetV.f l0 0 0 0).bind fun bt103 => ((octetP.f l0 bt103.2.1 bt103.2.2.1 bt103.2.2.2).bind fun bt107 => ((octetK.f l0 bt107.2.1 bt107.2.2.1 bt107.2.2.2).bind fun bt112 => ((code_source_number.f k l0 bt112.2.1 bt112.2.2.1 bt112.2.2.2 2147483647).bind fun bt116 => ((code_source_number.f k l0 bt116.2.1 bt116.2.2.1 bt116.2.2.2 8192).bind fun bt120 => (code_Decode.l0 k l0 bt120.1 l0 bt120.2.1 bt120.2.2.1 bt120.2.2.2 bt112.1 ([] : List ByteArray) bt116.1))))))
theorem code_Decode.mono_l : ∀ k, (∀ y0 y1 y2 y3 y4 y5 y6 y7, LeO (code_Decode.j1 k y0 y1 y2 y3 y4 y5 y6 y7) (code_Decode.j1 (k + 1) y0 y1 y2 y3 y4 y5 y6 y7)) ∧ (∀ y0 y1 y2 y3 y4 y5 y6 y7 y8 y9, LeO (code_Decode.l1 k y0 y1 y2 y3 y4 y5 y6 y7 y8 y9) (code_Decode.l1 (k + 1) y0 y1 y2 y3 y4 y5 y6 y7 y8 y9)) ∧ (∀ y0 y1 y2 y3 y4 y5 y6 y7 y8 y9 y10, LeO (code_Decode.j3 k y0 y1 y2 y3 y4 y5 y6 y7 y8 y9 y10) (code_Decode.j3 (k + 1) y0 y1 y2 y3 y4 y5 y6 y7 y8 y9 y10)) ∧ (∀ y0 y1 y2 y3 y4 y5 y6 y7 y8 y9 y10 y11 y12, LeO (code_Decode.j4 k y0 y1 y2 y3 y4 y5 y6 y7 y8 y9 y10 y11 y12) (code_Decode.j4 (k + 1) y0 y1 y2 y3 y4 y5 y6 y7 y8 y9 y10 y11 y12)) ∧ (∀ y0 y1 y2 y3 y4 y5 y6 y7 y8, LeO (code_Decode.l0 k y0 y1 y2 y3 y4 y5 y6 y7 y8) (code_Decode.l0 (k + 1) y0 y1 y2 y3 y4 y5 y6 y7 y8))
 | 0 => ⟨fun _ _ _ _ _ _ _ _ r h => by simp [code_Decode.j1] at h, fun _ _ _ _ _ _ _ _ _ _ r h => by simp [code_Decode.l1] at h, fun _ _ _ _ _ _ _ _ _ _ _ r h => by simp [code_Decode.j3] at h, fun _ _ _ _ _ _ _ _ _ _ _ _ _ r h => by simp [code_Decode.j4] at h, fun _ _ _ _ _ _ _ _ _ r h => by simp [code_Decode.l0] at h⟩
 | k + 1 => by
  obtain ⟨ih0, ih1, ih2, ih3, ih4⟩ := code_Decode.mono_l k
  refine ⟨?_, ?_, ?_, ?_, ?_⟩
  ·intro y0 y1 y2 y3 y4 y5 y6 y7
   unfold code_Decode.j1
   repeat' first
   | (with_reducible exact ih0 _ _ _ _ _ _ _ _)
   | (with_reducible exact ih1 _ _ _ _ _ _ _ _ _ _)
   | (with_reducible exact ih2 _ _ _ _ _ _ _ _ _ _ _)
   | (with_reducible exact ih3 _ _ _ _ _ _ _ _ _ _ _ _ _)
   | (with_reducible exact ih4 _ _ _ _ _ _ _ _ _)
   | (with_reducible exact code_of.mono _ _)
   | (with_reducible exact code_source_number.mono _ _ _ _ _ _)
   | (with_reducible exact code_source_text.mono _ _ _ _ _)
   | (with_reducible exact LeO.refl _)
   | (with_reducible exact LeO.none _)
   | (with_reducible refine LeO.ite ?_ ?_)
   | (with_reducible refine LeO.bind ?_ (fun _ => ?_))
   | exact ih0 _ _ _ _ _ _ _ _
   | exact ih1 _ _ _ _ _ _ _ _ _ _
   | exact ih2 _ _ _ _ _ _ _ _ _ _ _
   | exact ih3 _ _ _ _ _ _ _ _ _ _ _ _ _
   | exact ih4 _ _ _ _ _ _ _ _ _
   | exact code_of.mono _ _
   | exact code_source_number.mono _ _ _ _ _ _
   | exact code_source_text.mono _ _ _ _ _
   | exact LeO.none _
   | refine LeO.ite ?_ ?_
   | refine LeO.bind ?_ (fun _ => ?_)
  ·intro y0 y1 y2 y3 y4 y5 y6 y7 y8 y9
   unfold code_Decode.l1
   repeat' first
   | (with_reducible exact ih0 _ _ _ _ _ _ _ _)
   | (with_reducible exact ih1 _ _ _ _ _ _ _ _ _ _)
   | (with_reducible exact ih2 _ _ _ _ _ _ _ _ _ _ _)
   | (with_reducible exact ih3 _ _ _ _ _ _ _ _ _ _ _ _ _)
   | (with_reducible exact ih4 _ _ _ _ _ _ _ _ _)
   | (with_reducible exact code_of.mono _ _)
   | (with_reducible exact code_source_number.mono _ _ _ _ _ _)
   | (with_reducible exact code_source_text.mono _ _ _ _ _)
   | (with_reducible exact LeO.refl _)
   | (with_reducible exact LeO.none _)
   | (with_reducible refine LeO.ite ?_ ?_)
   | (with_reducible refine LeO.bind ?_ (fun _ => ?_))
   | exact ih0 _ _ _ _ _ _ _ _
   | exact ih1 _ _ _ _ _ _ _ _ _ _
   | exact ih2 _ _ _ _ _ _ _ _ _ _ _
   | exact ih3 _ _ _ _ _ _ _ _ _ _ _ _ _
   | exact ih4 _ _ _ _ _ _ _ _ _
   | exact code_of.mono _ _
   | exact code_source_number.mono _ _ _ _ _ _
   | exact code_source_text.mono _ _ _ _ _
   | exact LeO.none _
   | refine LeO.ite ?_ ?_
   | refine LeO.bind ?_ (fun _ => ?_)
  ·intro y0 y1 y2 y3 y4 y5 y6 y7 y8 y9 y10
   unfold code_Decode.j3
   repeat' first
   | (with_reducible exact ih0 _ _ _ _ _ _ _ _)
   | (with_reducible exact ih1 _ _ _ _ _ _ _ _ _ _)
   | (with_reducible exact ih2 _ _ _ _ _ _ _ _ _ _ _)
   | (with_reducible exact ih3 _ _ _ _ _ _ _ _ _ _ _ _ _)
   | (with_reducible exact ih4 _ _ _ _ _ _ _ _ _)
   | (with_reducible exact code_of.mono _ _)
   | (with_reducible exact code_source_number.mono _ _ _ _ _ _)
   | (with_reducible exact code_source_text.mono _ _ _ _ _)
   | (with_reducible exact LeO.refl _)
   | (with_reducible exact LeO.none _)
   | (with_reducible refine LeO.ite ?_ ?_)
   | (with_reducible refine LeO.bind ?_ (fun _ => ?_))
   | exact ih0 _ _ _ _ _ _ _ _
   | exact ih1 _ _ _ _ _ _ _ _ _ _
   | exact ih2 _ _ _ _ _ _ _ _ _ _ _
   | exact ih3 _ _ _ _ _ _ _ _ _ _ _ _ _
   | exact ih4 _ _ _ _ _ _ _ _ _
   | exact code_of.mono _ _
   | exact code_source_number.mono _ _ _ _ _ _
   | exact code_source_text.mono _ _ _ _ _
   | exact LeO.none _
   | refine LeO.ite ?_ ?_
   | refine LeO.bind ?_ (fun _ => ?_)
  ·intro y0 y1 y2 y3 y4 y5 y6 y7 y8 y9 y10 y11 y12
   unfold code_Decode.j4
   repeat' first
   | (with_reducible exact ih0 _ _ _ _ _ _ _ _)
   | (with_reducible exact ih1 _ _ _ _ _ _ _ _ _ _)
   | (with_reducible exact ih2 _ _ _ _ _ _ _ _ _ _ _)
   | (with_reducible exact ih3 _ _ _ _ _ _ _ _ _ _ _ _ _)
   | (with_reducible exact ih4 _ _ _ _ _ _ _ _ _)
   | (with_reducible exact code_of.mono _ _)
   | (with_reducible exact code_source_number.mono _ _ _ _ _ _)
   | (with_reducible exact code_source_text.mono _ _ _ _ _)
   | (with_reducible exact LeO.refl _)
   | (with_reducible exact LeO.none _)
   | (with_reducible refine LeO.ite ?_ ?_)
   | (with_reducible refine LeO.bind ?_ (fun _ => ?_))
   | exact ih0 _ _ _ _ _ _ _ _
   | exact ih1 _ _ _ _ _ _ _ _ _ _
   | exact ih2 _ _ _ _ _ _ _ _ _ _ _
   | exact ih3 _ _ _ _ _ _ _ _ _ _ _ _ _
   | exact ih4 _ _ _ _ _ _ _ _ _
   | exact code_of.mono _ _
   | exact code_source_number.mono _ _ _ _ _ _
   | exact code_source_text.mono _ _ _ _ _
   | exact LeO.none _
   | refine LeO.ite ?_ ?_
   | refine LeO.bind ?_ (fun _ => ?_)
  ·intro y0 y1 y2 y3 y4 y5 y6 y7 y8
   unfold code_Decode.l0
   repeat' first
   | (with_reducible exact ih0 _ _ _ _ _ _ _ _)
   | (with_reducible exact ih1 _ _ _ _ _ _ _ _ _ _)
   | (with_reducible exact ih2 _ _ _ _ _ _ _ _ _ _ _)
   | (with_reducible exact ih3 _ _ _ _ _ _ _ _ _ _ _ _ _)
   | (with_reducible exact ih4 _ _ _ _ _ _ _ _ _)
   | (with_reducible exact code_of.mono _ _)
   | (with_reducible exact code_source_number.mono _ _ _ _ _ _)
   | (with_reducible exact code_source_text.mono _ _ _ _ _)
   | (with_reducible exact LeO.refl _)
   | (with_reducible exact LeO.none _)
   | (with_reducible refine LeO.ite ?_ ?_)
   | (with_reducible refine LeO.bind ?_ (fun _ => ?_))
   | exact ih0 _ _ _ _ _ _ _ _
   | exact ih1 _ _ _ _ _ _ _ _ _ _
   | exact ih2 _ _ _ _ _ _ _ _ _ _ _
   | exact ih3 _ _ _ _ _ _ _ _ _ _ _ _ _
   | exact ih4 _ _ _ _ _ _ _ _ _
   | exact code_of.mono _ _
   | exact code_source_number.mono _ _ _ _ _ _
   | exact code_source_text.mono _ _ _ _ _
   | exact LeO.none _
   | refine LeO.ite ?_ ?_
   | refine LeO.bind ?_ (fun _ => ?_)
theorem code_Decode.mono : ∀ a0 k, LeO (code_Decode.f k a0) (code_Decode.f (k + 1) a0) := by
 intro a0 k
 obtain ⟨ih0, ih1, ih2, ih3, ih4⟩ := code_Decode.mono_l k
 unfold code_Decode.f
 repeat' first
   | (with_reducible exact ih0 _ _ _ _ _ _ _ _)
   | (with_reducible exact ih1 _ _ _ _ _ _ _ _ _ _)
   | (with_reducible exact ih2 _ _ _ _ _ _ _ _ _ _ _)
   | (with_reducible exact ih3 _ _ _ _ _ _ _ _ _ _ _ _ _)
   | (with_reducible exact ih4 _ _ _ _ _ _ _ _ _)
   | (with_reducible exact code_of.mono _ _)
   | (with_reducible exact code_source_number.mono _ _ _ _ _ _)
   | (with_reducible exact code_source_text.mono _ _ _ _ _)
   | (with_reducible exact LeO.refl _)
   | (with_reducible exact LeO.none _)
   | (with_reducible refine LeO.ite ?_ ?_)
   | (with_reducible refine LeO.bind ?_ (fun _ => ?_))
   | exact ih0 _ _ _ _ _ _ _ _
   | exact ih1 _ _ _ _ _ _ _ _ _ _
   | exact ih2 _ _ _ _ _ _ _ _ _ _ _
   | exact ih3 _ _ _ _ _ _ _ _ _ _ _ _ _
   | exact ih4 _ _ _ _ _ _ _ _ _
   | exact code_of.mono _ _
   | exact code_source_number.mono _ _ _ _ _ _
   | exact code_source_text.mono _ _ _ _ _
   | exact LeO.none _
   | refine LeO.ite ?_ ?_
   | refine LeO.bind ?_ (fun _ => ?_)
def code_Decode.T13 : Bool × List (List Nat × List Nat) := (true, [([], []), ([0], [0]), ([], []), ([2], [2]), ([3], [3]), ([1, 4, 3], [1, 4]), ([0, 1, 2, 3, 4, 5], []), ([6, 5, 5, 0, 1, 2, 3, 4, 5], [5, 6])])
def code_Decode.B13 : List Nat := [0, 1, 0, 4, 12, 31, 63, 127]
theorem code_Decode.tab13 : rtab .any (opsOf Try.f20 13) = code_Decode.T13 := by kernel_rfl
theorem code_Decode.bits13 : waitsOk code_Decode.T13.2 code_Decode.B13 = true := by kernel_rfl
def code_Decode.T26 : Bool × List (List Nat × List Nat) := (true, [([], []), ([], []), ([1], [1]), ([2], [2]), ([3], [3]), ([], []), ([5], [5]), ([6], [6]), ([7], [7]), ([0, 0], [0]), ([4, 9, 0, 1, 2, 3, 4, 9], [4]), ([8, 10, 0, 1, 2, 3, 4, 5, 6, 7, 8, 9, 10], [8])])
def code_Decode.B26 : List Nat := [0, 0, 2, 6, 14, 0, 32, 96, 224, 1, 543, 2047]
theorem code_Decode.tab26 : rtab .any (opsOf Try.f20 26) = code_Decode.T26 := by kernel_rfl
theorem code_Decode.bits26 : waitsOk code_Decode.T26.2 code_Decode.B26 = true := by kernel_rfl
theorem code_Decode.like65 {w0 W0 W : World} {g : Nat} {x0 : _} {x1 : _} {x2 : _} {x3 : _} (_ : IsS65 w0 W0 g x0 x1 x2 x3) (h : IsS65 w0 W g x0 x1 x2 x3) : IsS65 w0 W g x0 x1 x2 x3 := h
set_option maxHeartbeats 8000000 in
set_option maxRecDepth 100000 in
theorem code_Decode.calls (k : Nat) (A0 : Option Addr) (c0 : Nat) (l0 : List Int) (r1 : Int) (r2 : List ByteArray) (r3 : List (S41)) (r4 : Int) (r5 : Int) (r6 : Int) (w : World) (hr0 : Kd.C (Kd.int .u8) w A0 l0.length l0) (hc0 : l0.length ≤ c0) (h : code_Decode.f k l0 = some (r1, r2, r3, r4, r5, r6)) :
  Calls Try.prog 20 #[.slice A0 l0.length c0] w fun e w' => ∃ v1_ v2_ : Value, e = .returned (.tuple #[.agg #[.int .u8 r1, v1_, v2_, .int .i64 r4], .int .i64 r5, .int .i64 r6]) ∧ Kd.R Kd.string 9 w' w.heap.size (fun _ => True) v1_ r2 ∧ Kd.R k41 41 w' w.heap.size (fun _ => True) v2_ r3 ∧ Below w.heap.size w w' := by
 have hu25 := Try.underlying25
 have hu65 := Try.underlying65
 have hu41 := Try.underlying41
 have HR0 := Aside0.mk hr0
 have HC0 := Aside0.mk hc0
 clear hr0 hc0
 have HB := Aside0.mk (Below.refl w.heap.size w)
 have H : (if (l0.length : Int) > 1048576 then (some (0, ([] : List ByteArray), ([] : List (S41)), 0, 0, 3)) else ((octetV.f l0 0 0 0).bind fun bt103 => ((octetP.f l0 bt103.2.1 bt103.2.2.1 bt103.2.2.2).bind fun bt107 => ((octetK.f l0 bt107.2.1 bt107.2.2.1 bt107.2.2.2).bind fun bt112 => ((code_source_number.f k l0 bt112.2.1 bt112.2.2.1 bt112.2.2.2 2147483647).bind fun bt116 => ((code_source_number.f k l0 bt116.2.1 bt116.2.2.1 bt116.2.2.2 8192).bind fun bt120 => (code_Decode.l0 k l0 bt120.1 l0 bt120.2.1 bt120.2.2.1 bt120.2.2.2 bt112.1 ([] : List ByteArray) bt116.1))))))) = some (r1, r2, r3, r4, r5, r6) := h
 clear h
 by_cases c2 : (l0.length : Int) > 1048576
 ·rw [if_pos c2] at H
  have c2b0 : decide (1048576 < (l0.length : Int)) = true := decide_eq_true c2
  have c2b1 : decide (1048576 < l0.length) = true := decide_eq_true (by omega)
  clear c2
  simp only [Option.some.injEq, Prod.mk.injEq] at H
  obtain ⟨rfl, rfl, rfl, rfl, rfl, rfl⟩ := H
  go_enter Try.func20, Try.ntmps20
  go_wp2_with (first | ((with_reducible refine gate_dst (N := 2) rfl ?_); refine box_event ?hg (N := 2) ?hd (cs := #[.int .u8 0, .slice none 0 0, .slice none 0 0, .int .i64 0]) (t := 25) ?hr ?_; (case hd => rfl); (case hg => rfl); (case hr => first | (go_simp; done) | (go_simp; rfl)); intro gb101 hg w3 hbox hb; have n0_ := Aside0.mk (below_step (bl HB) hb); have n1_ := Aside0.mk (hbox); have n2_ := Aside0.mk ((by rw [hg]; exact (below_size (bl HB)) : w.heap.size ≤ gb101)); have n3_ := Aside0.mk ((by rw [hg]; exact (below_size (bl HB)) : w.heap.size ≤ gb101)); clear HB; have HB := n0_; have BK101 := n1_; have GW101 := n2_; have GE101 := n3_; clear n0_ n1_ n2_ n3_; clear hb hbox hg; have hcz4_0 : w3.cell? ⟨gb101, 0, none⟩ = some (.int .u8 0) := (blk_cell BK101.out 0).trans rfl; have hcz4_1 : w3.cell? ⟨gb101, 1, none⟩ = some (.slice none 0 0) := (blk_cell BK101.out 1).trans rfl; have hcz4_2 : w3.cell? ⟨gb101, 2, none⟩ = some (.slice none 0 0) := (blk_cell BK101.out 2).trans rfl; have hcz4_3 : w3.cell? ⟨gb101, 3, none⟩ = some (.int .i64 0) := (blk_cell BK101.out 3).trans rfl; have hfz4_0 := blk_frozen BK101.out 0; have hfz4_1 := blk_frozen BK101.out 1; have hfz4_2 := blk_frozen BK101.out 2; have hfz4_3 := blk_frozen BK101.out 3))
  refine bodyPost_ret (results_ctt rfl _ _ gb101 25 #[.int .u8 0, .slice none 0 0, .slice none 0 0, .int .i64 0] (0, 0) _ rfl (by (with_reducible repeat (first | refine blk_drewN ?_ _ | refine blk_drew ?_ | refine blk_alloc ?_ _)); refine blk_put (cs := #[.int .u8 0, .slice none 0 0, .slice none 0 0, .int .i64 0]) ?_ 3 _ rfl; (with_reducible repeat (first | refine blk_drewN ?_ _ | refine blk_drew ?_ | refine blk_alloc ?_ _)); refine blk_put (cs := #[.int .u8 0, .slice none 0 0, .slice none 0 0, .int .i64 0]) ?_ 2 _ rfl; (with_reducible repeat (first | refine blk_drewN ?_ _ | refine blk_drew ?_ | refine blk_alloc ?_ _)); refine blk_put (cs := #[.int .u8 0, .slice none 0 0, .slice none 0 0, .int .i64 0]) ?_ 1 _ rfl; (with_reducible repeat (first | refine blk_drewN ?_ _ | refine blk_drew ?_ | refine blk_alloc ?_ _)); refine blk_put (cs := #[.int .u8 0, .slice none 0 0, .slice none 0 0, .int .i64 0]) ?_ 0 _ rfl; (with_reducible repeat (first | refine blk_drewN ?_ _ | refine blk_drew ?_ | refine blk_alloc ?_ _)); exact BK101.out) Try.underlying25 rfl (by kernel_rfl)) rfl ?_
  exact ⟨_, _, by first | rfl | (simp [errW_none, errW_some] <;> rfl) | (simp [*, errW_none, errW_some] <;> rfl), by first | exact Kd.R_nil _ _ _ _ _ | exact Kd.N_nil _ _ _ _ _ | exact Kd.V_nil _ _ _ _ _ | exact Kd.Q_nil _ _ _ _ _ | exact Kd.S_nil _ _ _ _ _, by first | exact Kd.R_nil _ _ _ _ _ | exact Kd.N_nil _ _ _ _ _ | exact Kd.V_nil _ _ _ _ _ | exact Kd.Q_nil _ _ _ _ _ | exact Kd.S_nil _ _ _ _ _, by repeat (first | (with_reducible first | exact HB.out | apply below_alloc | apply pw_below_drewN | apply below_drew1 | refine below_set ?_ GE101.out) | exact HB.out)⟩
 ·rw [if_neg c2] at H
  have c2b0 : decide (1048576 < (l0.length : Int)) = false := decide_eq_false c2
  have c2b1 : decide (1048576 < l0.length) = false := decide_eq_false (by omega)
  clear c2
  replace H := Option.bind_eq_some_iff.mp H
  obtain ⟨⟨t103, t104, t105, t106⟩, A50, H⟩ := H
  replace H : ((octetP.f l0 t104 t105 t106).bind fun bt107 => ((octetK.f l0 bt107.2.1 bt107.2.2.1 bt107.2.2.2).bind fun bt112 => ((code_source_number.f k l0 bt112.2.1 bt112.2.2.1 bt112.2.2.2 2147483647).bind fun bt116 => ((code_source_number.f k l0 bt116.2.1 bt116.2.2.1 bt116.2.2.2 8192).bind fun bt120 => (code_Decode.l0 k l0 bt120.1 l0 bt120.2.1 bt120.2.2.1 bt120.2.2.2 bt112.1 ([] : List ByteArray) bt116.1))))) = some (r1, r2, r3, r4, r5, r6) := H
  have A5 := Aside0.mk A50
  clear A50
  replace H := Option.bind_eq_some_iff.mp H
  obtain ⟨⟨t107, t108, t109, t110⟩, A60, H⟩ := H
  replace H : ((octetK.f l0 t108 t109 t110).bind fun bt112 => ((code_source_number.f k l0 bt112.2.1 bt112.2.2.1 bt112.2.2.2 2147483647).bind fun bt116 => ((code_source_number.f k l0 bt116.2.1 bt116.2.2.1 bt116.2.2.2 8192).bind fun bt120 => (code_Decode.l0 k l0 bt120.1 l0 bt120.2.1 bt120.2.2.1 bt120.2.2.2 bt112.1 ([] : List ByteArray) bt116.1)))) = some (r1, r2, r3, r4, r5, r6) := H
  have A6 := Aside0.mk A60
  clear A60
  replace H := Option.bind_eq_some_iff.mp H
  obtain ⟨⟨t112, t113, t114, t115⟩, A70, H⟩ := H
  replace H : ((code_source_number.f k l0 t113 t114 t115 2147483647).bind fun bt116 => ((code_source_number.f k l0 bt116.2.1 bt116.2.2.1 bt116.2.2.2 8192).bind fun bt120 => (code_Decode.l0 k l0 bt120.1 l0 bt120.2.1 bt120.2.2.1 bt120.2.2.2 t112 ([] : List ByteArray) bt116.1))) = some (r1, r2, r3, r4, r5, r6) := H
  have A7 := Aside0.mk A70
  clear A70
  replace H := Option.bind_eq_some_iff.mp H
  obtain ⟨⟨t116, t117, t118, t119⟩, A80, H⟩ := H
  replace H : ((code_source_number.f k l0 t117 t118 t119 8192).bind fun bt120 => (code_Decode.l0 k l0 bt120.1 l0 bt120.2.1 bt120.2.2.1 bt120.2.2.2 t112 ([] : List ByteArray) t116)) = some (r1, r2, r3, r4, r5, r6) := H
  have A8 := Aside0.mk A80
  clear A80
  replace H := Option.bind_eq_some_iff.mp H
  obtain ⟨⟨t120, t121, t122, t123⟩, A90, H⟩ := H
  replace H : (code_Decode.l0 k l0 t120 l0 t121 t122 t123 t112 ([] : List ByteArray) t116) = some (r1, r2, r3, r4, r5, r6) := H
  have A9 := Aside0.mk A90
  clear A90
  have HC10 := Aside0.mk H
  clear H
  go_enter Try.func20, Try.ntmps20
  go_upto_block 0 with (first | ((with_reducible refine gate_dst (N := 2) rfl ?_); refine box_event ?hg (N := 2) ?hd (cs := #[.int .u8 0, .slice none 0 0, .slice none 0 0, .int .i64 0]) (t := 25) ?hr ?_; (case hd => rfl); (case hg => rfl); (case hr => first | (go_simp; done) | (go_simp; rfl)); intro gb101 hg w11 hbox hb; have n0_ := Aside0.mk (below_step (bl HB) hb); have n1_ := Aside0.mk (hbox); have n2_ := Aside0.mk ((by rw [hg]; exact (below_size (bl HB)) : w.heap.size ≤ gb101)); have n3_ := Aside0.mk ((by rw [hg]; exact (below_size (bl HB)) : w.heap.size ≤ gb101)); clear HB; have HB := n0_; have BK101 := n1_; have GW101 := n2_; have GE101 := n3_; clear n0_ n1_ n2_ n3_; clear hb hbox hg) | ((with_reducible refine gate_dst (N := 17) rfl ?_); refine box_event ?hg (N := 17) ?hd (cs := #[.slice A0 l0.length c0, .int .i64 0, .int .i64 0, .int .i64 0]) (t := 65) ?hr ?_; (case hd => rfl); (case hg => rfl); (case hr => first | (go_simp; done) | (go_simp; rfl)); intro gb102 hg w12 hbox hb; have n0_ := Aside0.mk (blk_below (g := gb101) (o := .cells #[.int .u8 0, .slice none 0 0, .slice none 0 0, .int .i64 0] 25 (0, 0)) (bk BK101) hb); have n1_ := Aside0.mk (below_step (bl1 HB GE101) hb); have n2_ := Aside0.mk ((by rw [hg]; exact (below_size (bl1 HB GE101)) : w.heap.size ≤ gb102)); have n3_ := Aside0.mk ((by rw [hg]; exact (below_size (bl1 HB GE101)) : w.heap.size ≤ gb102)); have n4_ := Aside0.mk ((by rw [hg]; exact Nat.ne_of_lt (blk_lt (g := gb101) (o := .cells #[.int .u8 0, .slice none 0 0, .slice none 0 0, .int .i64 0] 25 (0, 0)) (bk BK101)) : gb101 ≠ gb102)); have n5_ := Aside0.mk ((by rw [hg]; exact Nat.ne_of_gt (blk_lt (g := gb101) (o := .cells #[.int .u8 0, .slice none 0 0, .slice none 0 0, .int .i64 0] 25 (0, 0)) (bk BK101)) : gb102 ≠ gb101)); have n6_ := Aside0.mk ((show IsS65 w w12 gb102 l0 0 0 0 from ⟨A0, c0, hbox, (by rw [hg]; exact (below_size (bl1 HB GE101)) : w.heap.size ≤ gb102), ⟨HR0.out, HC0.out⟩⟩)); clear BK101; clear HB; have BK101 := n0_; have HB := n1_; have GW102 := n2_; have GE102 := n3_; have NB101_102 := n4_; have NB102_101 := n5_; have HI102 := n6_; clear n0_ n1_ n2_ n3_ n4_ n5_ n6_; clear hb hbox hg) | (go_at_call 42; (with_reducible refine (code_maker.calls _ _).mono ?_); rintro e wq ⟨gq, rfl, hbox, hge, hb⟩; have n4_ := Aside0.mk (Nat.ne_of_gt (Nat.lt_of_lt_of_le (IsS65.lt (g := gb102) (by repeat (first | (with_reducible first | exact HI102.out | apply IsS65.alloc | apply IsS65.drewN | apply IsS65.drew) | exact HI102.out))) hge) : gq ≠ gb102); have n0_ := Aside0.mk (blk_below (g := gb101) (o := .cells #[.int .u8 0, .slice none 0 0, .slice none 0 0, .int .i64 0] 25 (0, 0)) (bk BK101) hb); have n1_ := Aside0.mk (below_step (bl HB) hb); have n2_ := Aside0.mk (IsS65.below (by repeat (first | (with_reducible first | exact HI102.out | apply IsS65.alloc | apply IsS65.drewN | apply IsS65.drew) | exact HI102.out)) hb); have n3_ := Aside0.mk hbox; clear BK101; clear HB; clear HI102; (try clear HQ); (try clear HQN); have BK101 := n0_; have HB := n1_; have HI102 := n2_; have HQ := n3_; have HQN := n4_; clear n0_ n1_ n2_ n3_ n4_; clear hb hbox hge) | (go_at_call 44; (with_reducible refine (octetV.calls gq gb102 l0 0 0 0 t103 t104 t105 t106 w _ ((blk_cell HQ.out 0).trans rfl) ?side1 ?side2 A5.out).mono ?_); (case side1 => repeat (first | (with_reducible first | exact HI102.out | apply IsS65.alloc | apply IsS65.drewN | apply IsS65.drew | apply IsS65.set_1 | apply IsS65.set_2 | apply IsS65.set_3 | refine IsS65.far ?_ NB102_101.out _) | exact HI102.out)); (case side2 => repeat (first | (with_reducible first | exact HB.out | apply below_alloc | apply pw_below_drewN | apply below_drew1 | refine below_set ?_ (IsS65.ge HI102.out) | refine below_set ?_ GE101.out) | exact HB.out)); rintro e w13 ⟨rfl, hi, hb, hk⟩; have n0_ := Aside0.mk (KeepBut.blk hk (g' := gb101) (o := .cells #[.int .u8 0, .slice none 0 0, .slice none 0 0, .int .i64 0] 25 (0, 0)) (bk BK101) NB101_102.out (by simp)); have n1_ := Aside0.mk (hb); have n2_ := Aside0.mk (hi); clear BK101; clear HB; clear HI102; have BK101 := n0_; have HB := n1_; have HI102 := n2_; clear n0_ n1_ n2_; (try clear hb); (try clear hb2); (try clear hk); (try clear hi)) | (go_at_call 44; (with_reducible refine (octetP.calls gq gb102 l0 t104 t105 t106 t107 t108 t109 t110 w _ ((blk_cell HQ.out 0).trans rfl) ?side1 ?side2 A6.out).mono ?_); (case side1 => repeat (first | (with_reducible first | exact HI102.out | apply IsS65.alloc | apply IsS65.drewN | apply IsS65.drew | apply IsS65.set_1 | apply IsS65.set_2 | apply IsS65.set_3 | refine IsS65.far ?_ NB102_101.out _) | exact HI102.out)); (case side2 => repeat (first | (with_reducible first | exact HB.out | apply below_alloc | apply pw_below_drewN | apply below_drew1 | refine below_set ?_ (IsS65.ge HI102.out) | refine below_set ?_ GE101.out) | exact HB.out)); rintro e w14 ⟨rfl, hi, hb, hk⟩; have n0_ := Aside0.mk (KeepBut.blk hk (g' := gb101) (o := .cells #[.int .u8 0, .slice none 0 0, .slice none 0 0, .int .i64 0] 25 (0, 0)) (bk BK101) NB101_102.out (by simp)); have n1_ := Aside0.mk (hb); have n2_ := Aside0.mk (hi); clear BK101; clear HB; clear HI102; have BK101 := n0_; have HB := n1_; have HI102 := n2_; clear n0_ n1_ n2_; (try clear hb); (try clear hb2); (try clear hk); (try clear hi)) | ((with_reducible refine gate_dst (N := 7) rfl ?_); refine box_event ?hg (N := 7) ?hd (cs := #[.int .u8 0, .slice none 0 0, .slice none 0 0, .int .i64 0]) (t := 25) ?hr ?_; (case hd => rfl); (case hg => rfl); (case hr => first | (go_simp; done) | (go_simp; rfl)); intro gb111 hg w15 hbox hb; have n0_ := Aside0.mk (blk_below (g := gb101) (o := .cells #[.int .u8 0, .slice none 0 0, .slice none 0 0, .int .i64 0] 25 (0, 0)) (bk BK101) hb); have n1_ := Aside0.mk (IsS65.below (by repeat (first | (with_reducible first | exact HI102.out | apply IsS65.alloc | apply IsS65.drewN | apply IsS65.drew | apply IsS65.set_1 | apply IsS65.set_2 | apply IsS65.set_3 | refine IsS65.far ?_ NB102_101.out _) | exact HI102.out)) hb); have n2_ := Aside0.mk (below_step (by repeat (first | (with_reducible first | exact HB.out | apply below_alloc | apply pw_below_drewN | apply below_drew1 | refine below_set ?_ (IsS65.ge HI102.out) | refine below_set ?_ GE101.out) | exact HB.out)) hb); have n3_ := Aside0.mk (hbox); have n4_ := Aside0.mk ((by rw [hg]; exact (below_size (by repeat (first | (with_reducible first | exact HB.out | apply below_alloc | apply pw_below_drewN | apply below_drew1 | refine below_set ?_ (IsS65.ge HI102.out) | refine below_set ?_ GE101.out) | exact HB.out))) : w.heap.size ≤ gb111)); have n5_ := Aside0.mk ((by rw [hg]; exact (below_size (by repeat (first | (with_reducible first | exact HB.out | apply below_alloc | apply pw_below_drewN | apply below_drew1 | refine below_set ?_ (IsS65.ge HI102.out) | refine below_set ?_ GE101.out) | exact HB.out))) : w.heap.size ≤ gb111)); have n6_ := Aside0.mk ((by rw [hg]; exact Nat.ne_of_lt (blk_lt (g := gb101) (o := .cells #[.int .u8 0, .slice none 0 0, .slice none 0 0, .int .i64 0] 25 (0, 0)) (bk BK101)) : gb101 ≠ gb111)); have n7_ := Aside0.mk ((by rw [hg]; exact Nat.ne_of_gt (blk_lt (g := gb101) (o := .cells #[.int .u8 0, .slice none 0 0, .slice none 0 0, .int .i64 0] 25 (0, 0)) (bk BK101)) : gb111 ≠ gb101)); have n8_ := Aside0.mk ((by rw [hg]; exact Nat.ne_of_lt (IsS65.lt (show IsS65 w _ gb102 l0 t108 t109 t110 from by repeat (first | (with_reducible first | exact HI102.out | apply IsS65.alloc | apply IsS65.drewN | apply IsS65.drew | apply IsS65.set_1 | apply IsS65.set_2 | apply IsS65.set_3 | refine IsS65.far ?_ NB102_101.out _) | exact HI102.out))) : gb102 ≠ gb111)); have n9_ := Aside0.mk ((by rw [hg]; exact Nat.ne_of_gt (IsS65.lt (show IsS65 w _ gb102 l0 t108 t109 t110 from by repeat (first | (with_reducible first | exact HI102.out | apply IsS65.alloc | apply IsS65.drewN | apply IsS65.drew | apply IsS65.set_1 | apply IsS65.set_2 | apply IsS65.set_3 | refine IsS65.far ?_ NB102_101.out _) | exact HI102.out))) : gb111 ≠ gb102)); clear BK101; clear HI102; clear HB; have BK101 := n0_; have HI102 := n1_; have HB := n2_; have BK111 := n3_; have GW111 := n4_; have GE111 := n5_; have NB101_111 := n6_; have NB111_101 := n7_; have NB102_111 := n8_; have NB111_102 := n9_; clear n0_ n1_ n2_ n3_ n4_ n5_ n6_ n7_ n8_ n9_; clear hb hbox hg) | ((with_reducible refine gate_callee (f := 44) rfl ?_); refine goesL_ (some 27) rfl rfl Try.func44 (by kernel_rfl) rfl #[.pointer (some ⟨gb102, 0, none⟩), .func (.func 45) #[] #[]] rfl (by (try simp only [List.map_toArray, List.map_cons, List.map_nil]); first | done | rfl | (simp only [List.length_drop, List.length_take]; rfl)) ?_; (with_reducible refine (octetK.calls gb102 l0 t108 t109 t110  t112 t113 t114 t115 w _ ?side1 ?side2 A7.out).mono ?_); (case side1 => repeat (first | (with_reducible first | exact HI102.out | apply IsS65.alloc | apply IsS65.drewN | apply IsS65.drew | apply IsS65.set_1 | apply IsS65.set_2 | apply IsS65.set_3 | refine IsS65.far ?_ NB102_101.out _ | refine IsS65.far ?_ NB102_111.out _) | exact HI102.out)); (case side2 => repeat (first | (with_reducible first | exact HB.out | apply below_alloc | apply pw_below_drewN | apply below_drew1 | refine below_set ?_ (IsS65.ge HI102.out) | refine below_set ?_ GE101.out | refine below_set ?_ GE111.out) | exact HB.out)); rintro e w16 ⟨rfl, hi, hb, hk⟩; refine ⟨_, rfl, ?_⟩; have n0_ := Aside0.mk (KeepBut.blk hk (g' := gb101) (o := .cells #[.int .u8 0, .slice none 0 0, .slice none 0 0, .int .i64 0] 25 (0, 0)) (bk BK101) NB101_102.out (by simp)); have n1_ := Aside0.mk (KeepBut.blk hk (g' := gb111) (o := .cells #[.int .u8 0, .slice none 0 0, .slice none 0 0, .int .i64 0] 25 (0, 0)) (bk BK111) NB111_102.out (by simp)); have n2_ := Aside0.mk (hb); have n3_ := Aside0.mk (hi); clear BK101; clear BK111; clear HB; clear HI102; have BK101 := n0_; have BK111 := n1_; have HB := n2_; have HI102 := n3_; clear n0_ n1_ n2_ n3_; (try clear hb); (try clear hb2); (try clear hk); (try clear hi); have hnb17 := NB111_101.out; have hnc17 := NB101_111.out; have hnb18 := NB111_102.out; have hnc18 := NB102_111.out; have hcz19_0 : w16.cell? ⟨gb111, 0, none⟩ = some (.int .u8 0) := (blk_cell BK111.out 0).trans rfl; have hcz19_1 : w16.cell? ⟨gb111, 1, none⟩ = some (.slice none 0 0) := (blk_cell BK111.out 1).trans rfl; have hcz19_2 : w16.cell? ⟨gb111, 2, none⟩ = some (.slice none 0 0) := (blk_cell BK111.out 2).trans rfl; have hcz19_3 : w16.cell? ⟨gb111, 3, none⟩ = some (.int .i64 0) := (blk_cell BK111.out 3).trans rfl; have hfz19_0 := blk_frozen BK111.out 0; have hfz19_1 := blk_frozen BK111.out 1; have hfz19_2 := blk_frozen BK111.out 2; have hfz19_3 := blk_frozen BK111.out 3) | ((with_reducible refine gate_callee (f := 46) rfl ?_); refine goesL_ (some 30) rfl rfl Try.func46 (by kernel_rfl) rfl #[.pointer (some ⟨gb102, 0, none⟩), .int .i64 2147483647] rfl (by (try simp only [List.map_toArray, List.map_cons, List.map_nil]); first | done | rfl | (simp only [List.length_drop, List.length_take]; rfl)) ?_; (with_reducible refine (code_source_number.calls k gb102 l0 t113 t114 t115 2147483647 t116 t117 t118 t119 w _ ?side1 ?side2 A8.out).mono ?_); (case side1 => repeat (first | (with_reducible first | exact HI102.out | apply IsS65.alloc | apply IsS65.drewN | apply IsS65.drew | apply IsS65.set_1 | apply IsS65.set_2 | apply IsS65.set_3 | refine IsS65.far ?_ NB102_101.out _ | refine IsS65.far ?_ NB102_111.out _) | exact HI102.out)); (case side2 => repeat (first | (with_reducible first | exact HB.out | apply below_alloc | apply pw_below_drewN | apply below_drew1 | refine below_set ?_ (IsS65.ge HI102.out) | refine below_set ?_ GE101.out | refine below_set ?_ GE111.out) | exact HB.out)); rintro e w20 ⟨rfl, hi, hb, hk⟩; refine ⟨_, rfl, ?_⟩; have n0_ := Aside0.mk (KeepBut.blk hk (g' := gb101) (o := .cells #[.int .u8 0, .slice none 0 0, .slice none 0 0, .int .i64 0] 25 (0, 0)) (by (with_reducible repeat (first | refine blk_drewN ?_ _ | refine blk_drew ?_ | refine blk_alloc ?_ _)); refine blk_far ?_ NB101_111.out _; (with_reducible repeat (first | refine blk_drewN ?_ _ | refine blk_drew ?_ | refine blk_alloc ?_ _)); exact BK101.out) NB101_102.out (by simp)); have n1_ := Aside0.mk (KeepBut.blk hk (g' := gb111) (o := .cells #[.int .u8 t112, .slice none 0 0, .slice none 0 0, .int .i64 0] 25 (0, 0)) (by (with_reducible repeat (first | refine blk_drewN ?_ _ | refine blk_drew ?_ | refine blk_alloc ?_ _)); refine blk_put (cs := #[.int .u8 0, .slice none 0 0, .slice none 0 0, .int .i64 0]) ?_ 0 _ rfl; (with_reducible repeat (first | refine blk_drewN ?_ _ | refine blk_drew ?_ | refine blk_alloc ?_ _)); exact BK111.out) NB111_102.out (by simp)); have n2_ := Aside0.mk (hb); have n3_ := Aside0.mk (hi); clear BK101; clear BK111; clear HB; clear HI102; have BK101 := n0_; have BK111 := n1_; have HB := n2_; have HI102 := n3_; clear n0_ n1_ n2_ n3_; (try clear hb); (try clear hb2); (try clear hk); (try clear hi); have hcz21_0 : w20.cell? ⟨gb111, 0, none⟩ = some (.int .u8 t112) := (blk_cell BK111.out 0).trans rfl; have hcz21_1 : w20.cell? ⟨gb111, 1, none⟩ = some (.slice none 0 0) := (blk_cell BK111.out 1).trans rfl; have hcz21_2 : w20.cell? ⟨gb111, 2, none⟩ = some (.slice none 0 0) := (blk_cell BK111.out 2).trans rfl; have hcz21_3 : w20.cell? ⟨gb111, 3, none⟩ = some (.int .i64 0) := (blk_cell BK111.out 3).trans rfl; have hfz21_0 := blk_frozen BK111.out 0; have hfz21_1 := blk_frozen BK111.out 1; have hfz21_2 := blk_frozen BK111.out 2; have hfz21_3 := blk_frozen BK111.out 3) | ((with_reducible refine gate_callee (f := 46) rfl ?_); refine goesL_ (some 33) rfl rfl Try.func46 (by kernel_rfl) rfl #[.pointer (some ⟨gb102, 0, none⟩), .int .i64 8192] rfl (by (try simp only [List.map_toArray, List.map_cons, List.map_nil]); first | done | rfl | (simp only [List.length_drop, List.length_take]; rfl)) ?_; (with_reducible refine (code_source_number.calls k gb102 l0 t117 t118 t119 8192 t120 t121 t122 t123 w _ ?side1 ?side2 A9.out).mono ?_); (case side1 => repeat (first | (with_reducible first | exact HI102.out | apply IsS65.alloc | apply IsS65.drewN | apply IsS65.drew | apply IsS65.set_1 | apply IsS65.set_2 | apply IsS65.set_3 | refine IsS65.far ?_ NB102_101.out _ | refine IsS65.far ?_ NB102_111.out _) | exact HI102.out)); (case side2 => repeat (first | (with_reducible first | exact HB.out | apply below_alloc | apply pw_below_drewN | apply below_drew1 | refine below_set ?_ (IsS65.ge HI102.out) | refine below_set ?_ GE101.out | refine below_set ?_ GE111.out) | exact HB.out)); rintro e w22 ⟨rfl, hi, hb, hk⟩; refine ⟨_, rfl, ?_⟩; have n0_ := Aside0.mk (KeepBut.blk hk (g' := gb101) (o := .cells #[.int .u8 0, .slice none 0 0, .slice none 0 0, .int .i64 0] 25 (0, 0)) (by (with_reducible repeat (first | refine blk_drewN ?_ _ | refine blk_drew ?_ | refine blk_alloc ?_ _)); refine blk_far ?_ NB101_111.out _; (with_reducible repeat (first | refine blk_drewN ?_ _ | refine blk_drew ?_ | refine blk_alloc ?_ _)); exact BK101.out) NB101_102.out (by simp)); have n1_ := Aside0.mk (KeepBut.blk hk (g' := gb111) (o := .cells #[.int .u8 t112, .slice none 0 0, .slice none 0 0, .int .i64 t116] 25 (0, 0)) (by (with_reducible repeat (first | refine blk_drewN ?_ _ | refine blk_drew ?_ | refine blk_alloc ?_ _)); refine blk_put (cs := #[.int .u8 t112, .slice none 0 0, .slice none 0 0, .int .i64 0]) ?_ 3 _ rfl; (with_reducible repeat (first | refine blk_drewN ?_ _ | refine blk_drew ?_ | refine blk_alloc ?_ _)); exact BK111.out) NB111_102.out (by simp)); have n2_ := Aside0.mk (hb); have n3_ := Aside0.mk (hi); clear BK101; clear BK111; clear HB; clear HI102; have BK101 := n0_; have BK111 := n1_; have HB := n2_; have HI102 := n3_; clear n0_ n1_ n2_ n3_; (try clear hb); (try clear hb2); (try clear hk); (try clear hi)))
  (try simp only [Act.put, List.setIfInBounds_toArray, List.set_cons_zero, List.set_cons_succ])
  go_cut [] (fun wc => ∃ (kq : Nat) (x103001_9 : Int) (x103002_9 : Int) (x103003_9 : Int) (x112001_9 : List ByteArray) (u112001 : Value), Aside0 (code_Decode.j1 kq l0 l0 x103001_9 x103002_9 x103003_9 t112 x112001_9 t116 = some (r1, r2, r3, r4, r5, r6)) ∧ Aside0 (kq ≤ k) ∧ Aside0 (Kd.R Kd.string 9 wc w.heap.size (fun _ => True) u112001 x112001_9) ∧ Aside0 (wc.heap[gb101]? = some (.cells #[.int .u8 0, (.slice none 0 0), (.slice none 0 0), .int .i64 0] 25 (0, 0))) ∧ Aside0 (wc.heap[gb111]? = some (.cells #[.int .u8 t112, u112001, (.slice none 0 0), .int .i64 t116] 25 (0, 0))) ∧ Aside0 (IsS65 w wc gb102 l0 x103001_9 x103002_9 x103003_9) ∧ Aside0 (Below w.heap.size w wc))
  case first =>
   have H := HC10.out
   clear HC10
   have H' := Aside0.mk H
   clear H
   go_wp2
   go_loopg [8] k (fun kq v8 w' => ∃ (x8_1 : Int) (x103001_1 : Int) (x103002_1 : Int) (x103003_1 : Int) (x112001_1 : List ByteArray) (u112001 : Value), v8 = .int .i64 x8_1 ∧ Aside0 (code_Decode.l0 kq l0 x8_1 l0 x103001_1 x103002_1 x103003_1 t112 x112001_1 t116 = some (r1, r2, r3, r4, r5, r6)) ∧ Aside0 (kq ≤ k) ∧ Aside0 (Kd.R Kd.string 9 w' w.heap.size (fun _ => True) u112001 x112001_1) ∧ Aside0 (w'.heap[gb101]? = some (.cells #[.int .u8 0, (.slice none 0 0), (.slice none 0 0), .int .i64 0] 25 (0, 0))) ∧ Aside0 (w'.heap[gb111]? = some (.cells #[.int .u8 t112, u112001, (.slice none 0 0), .int .i64 t116] 25 (0, 0))) ∧ Aside0 (IsS65 w w' gb102 l0 x103001_1 x103002_1 x103003_1) ∧ Aside0 (Below w.heap.size w w'))
   case atStart => exact ⟨(t120), (t121), (t122), (t123), (([] : List ByteArray)), (.slice none 0 0), (by first | rfl | (simp; done) | (simp [*]; done)), H', ⟨Nat.le_refl _⟩, ⟨by first | exact Kd.R_nil _ _ _ _ _ | exact Kd.N_nil _ _ _ _ _ | exact Kd.V_nil _ _ _ _ _ | exact Kd.Q_nil _ _ _ _ _ | exact Kd.S_nil _ _ _ _ _⟩, ⟨by (with_reducible repeat (first | refine blk_drewN ?_ _ | refine blk_drew ?_ | refine blk_alloc ?_ _)); exact BK101.out⟩, ⟨by (with_reducible repeat (first | refine blk_drewN ?_ _ | refine blk_drew ?_ | refine blk_alloc ?_ _)); exact BK111.out⟩, ⟨by repeat (first | (with_reducible first | exact HI102.out | apply IsS65.alloc | apply IsS65.drewN | apply IsS65.drew | apply IsS65.set_1 | apply IsS65.set_2 | apply IsS65.set_3 | refine IsS65.far ?_ NB102_101.out _ | refine IsS65.far ?_ NB102_111.out _) | exact HI102.out)⟩, ⟨by repeat (first | (with_reducible first | exact HB.out | apply below_alloc | apply pw_below_drewN | apply below_drew1 | refine below_set ?_ (IsS65.ge HI102.out) | refine below_set ?_ GE101.out | refine below_set ?_ GE111.out) | exact HB.out)⟩⟩
   case round =>
    clear H'
    try clear c1
    try clear c2
    try clear c2b0
    try clear c2b1
    try clear p2
    try clear c4
    try clear c7
    try clear c17
    try clear c18
    try clear c20
    try clear hcz19_0
    try clear hcz19_1
    try clear hcz19_2
    try clear hcz19_3
    try clear hcz21_0
    try clear hcz21_1
    try clear hcz21_2
    try clear hcz21_3
    try clear hcz4_0
    try clear hcz4_1
    try clear hcz4_2
    try clear hcz4_3
    try clear hfz19_0
    try clear hfz19_1
    try clear hfz19_2
    try clear hfz19_3
    try clear hfz21_0
    try clear hfz21_1
    try clear hfz21_2
    try clear hfz21_3
    try clear hfz4_0
    try clear hfz4_1
    try clear hfz4_2
    try clear hfz4_3
    obtain ⟨x8_1, x103001_1, x103002_1, x103003_1, x112001_1, u112001, rfl, HA, HK1, HO_112001, BK101, BK111, HI102, HB⟩ := hrel
    cases gk with
    | zero => exact absurd HA.out (by simp [code_Decode.l0])
    | succ k1 =>
     have H := HA.out
     clear HA
     simp only [code_Decode.l0] at H
     by_cases c23 : x8_1 > 0
     ·rw [if_pos c23] at H
      have c23b0 : decide (0 < x8_1) = true := decide_eq_true c23
      clear c23
      (first | rw [c23b0] | (simp only [i64_w, i32_w]; rw [c23b0]) | skip)
      by_cases c24 : x103002_1 = 0
      ·rw [if_pos c24] at H
       have c24b0 : (x103002_1 == 0) = true := beq_iff_eq.mpr c24
       have c24b1 : (x103002_1 != 0) = false := bne_eq_false_iff_eq.mpr c24
       clear c24
       replace H := Option.bind_eq_some_iff.mp H
       obtain ⟨⟨t124, t125, t126, t127⟩, A250, H⟩ := H
       replace H : (if x112001_1.length < 8796093022208 then (code_Decode.l0 k1 l0 (wrap64 (x8_1 - 1)) l0 t125 t126 t127 t112 (x112001_1 ++ [t124]) t116) else (none)) = some (r1, r2, r3, r4, r5, r6) := H
       have A25 := Aside0.mk A250
       clear A250
       by_cases c26 : x112001_1.length < 8796093022208
       ·rw [if_pos c26] at H
        have LMc26 := Aside0.mk c26
        clear c26
        obtain ⟨y128, hy128⟩ : ∃ y_ : List ByteArray, y_ = (x112001_1 ++ [t124]) := ⟨_, rfl⟩
        replace H : (code_Decode.l0 k1 l0 (wrap64 (x8_1 - 1)) l0 t125 t126 t127 t112 y128 t116) = some (r1, r2, r3, r4, r5, r6) := by first | (rw [hy128]; with_reducible exact H) | (have H2_ := (Option.bind_some _ _).symm.trans H; rw [hy128]; with_reducible exact H2_) | (have H2_ := (Option.bind_some _ _).symm.trans H; with_reducible exact H2_) | with_reducible exact H | (rw [hy128]; exact H) | exact H
        have Ny128 := Aside0.mk hy128
        clear hy128
        have H' := Aside0.mk H
        clear H
        obtain ⟨ASz27_0, cSz27_0, HGz27, hgz27, ⟨HSz27_0, HTz27_0⟩⟩ := HI102.out
        have hcz27_0 := cellS65_0 HGz27
        have hcz27_1 := cellS65_1 HGz27
        have hcz27_2 := cellS65_2 HGz27
        have hcz27_3 := cellS65_3 HGz27
        have hfz27_1 := blk_frozen HGz27 1
        have hfz27_2 := blk_frozen HGz27 2
        have hfz27_3 := blk_frozen HGz27 3
        clear HGz27 hgz27
        try go_wp2
        have n0_ := Aside0.mk (Kd.R_drew HO_112001.out)
        have n1_ := Aside0.mk (blk_drew BK101.out)
        have n2_ := Aside0.mk (blk_drew BK111.out)
        have n3_ := Aside0.mk (IsS65.drew HI102.out)
        have n4_ := Aside0.mk (below_drew1 HB.out)
        clear HO_112001
        clear BK101
        clear BK111
        clear HI102
        clear HB
        have HO_112001 := n0_
        have BK101 := n1_
        have BK111 := n2_
        have HI102 := n3_
        have HB := n4_
        clear n0_ n1_ n2_ n3_ n4_
        refine start_ (n := 8) (S := fun w' => w'.cell? ⟨gb111, 0, none⟩ = some (.int .u8 t112) ∧ w'.cell? ⟨gb111, 1, none⟩ = some (u112001) ∧ w'.cell? ⟨gb111, 2, none⟩ = some (.slice none 0 0) ∧ w'.cell? ⟨gb111, 3, none⟩ = some (.int .i64 t116)) (ds := [7]) #[false, false, false, false, false, false, false, false] (by kernel_rfl) rfl rfl ⟨(blk_cell BK111.out 0).trans rfl, (blk_cell BK111.out 1).trans rfl, (blk_cell BK111.out 2).trans rfl, (blk_cell BK111.out 3).trans rfl⟩ (fun hHeld => ?_); refine with_tabW code_Decode.tab13 code_Decode.bits13 (fun HT_ HW_ => ?_)
        generalize wr.drew = w28 at HO_112001 BK101 BK111 HI102 HB hHeld ⊢
        refine pu 0 (some 45) ?_; refine pu 2 (some 47) ?_; refine tk 1 (some 46) hHeld ?_
        refine on_ 3 (some 48) (fun K hK => ?_)
        refine goes_ Try.func47 (by kernel_rfl) rfl #[.pointer (some ⟨gb102, 0, none⟩)] (by rfl) rfl rfl (by (try simp only [List.map_toArray, List.map_cons, List.map_nil]); first | done | rfl | (simp only [List.length_drop, List.length_take]; rfl)) ?_
        with_reducible refine (code_source_text.calls k1 gb102 l0 x103001_1 x103002_1 x103003_1 t124 t125 t126 t127 w _ ?side1 ?side2 A25.out).mono ?_
        (case side1 => repeat (first | (with_reducible first | exact HI102.out | apply IsS65.alloc | apply IsS65.drewN | apply IsS65.drew | apply IsS65.set_1 | apply IsS65.set_2 | apply IsS65.set_3 | refine IsS65.far ?_ NB102_101.out _ | refine IsS65.far ?_ NB102_111.out _) | exact HI102.out))
        (case side2 => repeat (first | (with_reducible first | exact HB.out | apply below_alloc | apply pw_below_drewN | apply below_drew1 | refine below_set ?_ (IsS65.ge HI102.out) | refine below_set ?_ GE101.out | refine below_set ?_ GE111.out) | exact HB.out))
        rintro e w29 ⟨rfl, hi, hb, hk⟩
        refine ⟨_, rfl, ?_⟩
        have n0_ := Aside0.mk (Kd.R_mono (Kd.R_keep (IsS65.apart (show IsS65 w _ gb102 l0 x103001_1 x103002_1 x103003_1 from by repeat (first | (with_reducible first | exact HI102.out | apply IsS65.alloc | apply IsS65.drewN | apply IsS65.drew | apply IsS65.set_1 | apply IsS65.set_2 | apply IsS65.set_3 | refine IsS65.far ?_ NB102_101.out _ | refine IsS65.far ?_ NB102_111.out _) | exact HI102.out)) (kr HO_112001) (by decide)) hk (fun _ h => h.2)) (fun _ h => h.1))
        have n1_ := Aside0.mk (KeepBut.blk hk (g' := gb101) (o := .cells #[.int .u8 0, .slice none 0 0, .slice none 0 0, .int .i64 0] 25 (0, 0)) (bk BK101) NB101_102.out (by simp))
        have n2_ := Aside0.mk (KeepBut.blk hk (g' := gb111) (o := .cells #[.int .u8 t112, u112001, .slice none 0 0, .int .i64 t116] 25 (0, 0)) (bk BK111) NB111_102.out (by simp))
        have n3_ := Aside0.mk (hb)
        have n4_ := Aside0.mk (hi)
        clear HO_112001
        clear BK101
        clear BK111
        clear HB
        clear HI102
        have HO_112001 := n0_
        have BK101 := n1_
        have BK111 := n2_
        have HB := n3_
        have HI102 := n4_
        clear n0_ n1_ n2_ n3_ n4_
        (try clear hb)
        (try clear hb2)
        (try clear hk)
        (try clear hi)
        refine hK.out _ _ ⟨(blk_cell BK111.out 0).trans rfl, (blk_cell BK111.out 1).trans rfl, (blk_cell BK111.out 2).trans rfl, (blk_cell BK111.out 3).trans rfl⟩ (fun hHeld => ?_)
        clear hK K
        refine norm_ (a' := ?_) ?_ ?_
        rotate_left
        ·show Act.put _ (some 48) _ = _
         simp only [Act.put, List.setIfInBounds_toArray, List.set_cons_zero, List.set_cons_succ, i64_w, i32_w]
         rfl
        refine on_ 4 (some 49) (fun K hK => ?_)
        refine value_ (w1 := ?_) (v := ?_) (by rfl) rfl ?_ ?_
        rotate_left 2
        ·go_simp
         constructor
         ·rfl
         ·rfl
        refine hK.out _ _ ⟨(blk_cell (blk_alloc BK111.out _) 0).trans rfl, (blk_cell (blk_alloc BK111.out _) 1).trans rfl, (blk_cell (blk_alloc BK111.out _) 2).trans rfl, (blk_cell (blk_alloc BK111.out _) 3).trans rfl⟩ (fun hHeld => ?_)
        clear hK K
        refine norm_ (a' := ?_) ?_ ?_
        rotate_left
        ·show Act.put _ (some 49) _ = _
         simp only [Act.put, List.setIfInBounds_toArray, List.set_cons_zero, List.set_cons_succ, i64_w, i32_w]
         rfl
        refine on_ 5 (some 50) (fun K hK => ?_)
        refine Kd.R_append_step Kd.string (w0 := w) w.heap.size (by rfl) (.tmp 46) (.tmp 49) 22 9 (.string ⟨#[]⟩) 16 rfl Try.underlying22 info9 rfl (by decide) (by omega) u112001 x112001_1 t124 [.string t124] (fun _ => True) (fun _ => False) rfl rfl ?aP (fun _ hk => hk.elim) ?aF ?aO ?aB ?aS ?aL ?_
        (case aP => exact rfl)
        (case aB => exact (by repeat (first | (with_reducible first | exact HB.out | apply below_alloc | apply pw_below_drewN | apply below_drew1 | refine below_set ?_ (IsS65.ge HI102.out) | refine below_set ?_ GE101.out | refine below_set ?_ GE111.out) | exact HB.out)))
        (case aF => exact (fun _ _ => trivial))
        (case aO => exact (kr HO_112001))
        (case aS => exact (below_size (by repeat (first | (with_reducible first | exact HB.out | apply below_alloc | apply pw_below_drewN | apply below_drew1 | refine below_set ?_ (IsS65.ge HI102.out) | refine below_set ?_ GE101.out | refine below_set ?_ GE111.out) | exact HB.out))))
        (case aL => have := LMc26.out; omega)
        intro v129 w30 ho hb hg hat
        rw [← Ny128.out] at ho
        have n0_ := Aside0.mk (blk_grown (g := gb101) (o := .cells #[.int .u8 0, .slice none 0 0, .slice none 0 0, .int .i64 0] 25 (0, 0)) (bk BK101) hg (Kd.R_ne HO_112001.out BK101.out (by decide)))
        have n1_ := Aside0.mk (blk_grown (g := gb111) (o := .cells #[.int .u8 t112, u112001, .slice none 0 0, .int .i64 t116] 25 (0, 0)) (bk BK111) hg (Kd.R_ne HO_112001.out BK111.out (by decide)))
        have n2_ := Aside0.mk (IsS65.grown (code_Decode.like65 HI102.out (by repeat (first | (with_reducible first | exact HI102.out | apply IsS65.alloc | apply IsS65.drewN | apply IsS65.drew | apply IsS65.set_1 | apply IsS65.set_2 | apply IsS65.set_3 | refine IsS65.far ?_ NB102_101.out _ | refine IsS65.far ?_ NB102_111.out _) | exact HI102.out))) hg (IsS65.own_ne HI102.out HO_112001.out (by decide)))
        have n3_ := Aside0.mk (hb)
        have n4_ := Aside0.mk (ho)
        clear BK101
        clear BK111
        clear HI102
        clear HB
        clear HO_112001
        have BK101 := n0_
        have BK111 := n1_
        have HI102 := n2_
        have HB := n3_
        have HO130 := n4_
        clear n0_ n1_ n2_ n3_ n4_
        clear ho hb hg hat
        obtain ⟨Ao31, co31, eo31⟩ := Kd.R_slice HO130.out
        (first | subst eo31 | (injection eo31 with f1_ f2_ f3_; have f4_ := f1_.symm; have f5_ := f3_.symm; clear f1_ f2_ f3_; subst f4_; subst f5_))
        refine hK.out _ _ ⟨(blk_cell BK111.out 0).trans rfl, (blk_cell BK111.out 1).trans rfl, (blk_cell BK111.out 2).trans rfl, (blk_cell BK111.out 3).trans rfl⟩ (fun hHeld => ?_)
        clear hK K
        refine norm_ (a' := ?_) ?_ ?_
        rotate_left
        ·show Act.put _ (some 50) _ = _
         simp only [Act.put, List.setIfInBounds_toArray, List.set_cons_zero, List.set_cons_succ, i64_w, i32_w]
         rfl
        refine pu 6 (some 51) ?_
        refine last_ (i := 7) (N := none) #[true, true, true, true, true, true, true, true] rfl rfl (one_of HT_.out (by kernel_rfl)) (by decide) (fun K hK => ?_)
        have hs32 : w30.cell? ⟨gb111, 1, none⟩ = some (u112001) := (blk_cell BK111.out 1).trans rfl
        have hfs32 := blk_frozen BK111.out 1
        have hns32_0 := NB101_111.out
        have hms32_0 := NB111_101.out
        refine skip_ (w1 := ?_) (by rfl) rfl ?_ ?_
        rotate_left
        ·go_simp
         rfl
        refine hK.out _ _ ?_
        clear hK K
        refine done_ (done_of HT_.out (by kernel_rfl)) ?_
        try go_wp2
        go_roundg k1
        case measure => have := HK1.out; omega
        case rel => exact ⟨(wrap64 (x8_1 - 1)), (t125), (t126), (t127), (y128), (.slice Ao31 y128.length co31), (by first | rfl | (simp; done) | (simp [*]; done)), H', ⟨by have := HK1.out; omega⟩, ⟨by (with_reducible repeat (first | apply Kd.R_alloc | apply Kd.R_drewN | apply Kd.R_drew)); exact Kd.R_mono (Kd.R_far (p := ⟨gb111, 1, none⟩) (Kd.R_types HO130.out BK111.out (by decide)) (fun _ hk => hk.2) (.slice Ao31 y128.length co31)) (fun _ hk => trivial)⟩, ⟨by (with_reducible repeat (first | refine blk_drewN ?_ _ | refine blk_drew ?_ | refine blk_alloc ?_ _)); refine blk_far ?_ NB101_111.out _; (with_reducible repeat (first | refine blk_drewN ?_ _ | refine blk_drew ?_ | refine blk_alloc ?_ _)); exact BK101.out⟩, ⟨by (with_reducible repeat (first | refine blk_drewN ?_ _ | refine blk_drew ?_ | refine blk_alloc ?_ _)); refine blk_put (cs := #[.int .u8 t112, u112001, .slice none 0 0, .int .i64 t116]) ?_ 1 _ rfl; (with_reducible repeat (first | refine blk_drewN ?_ _ | refine blk_drew ?_ | refine blk_alloc ?_ _)); exact BK111.out⟩, ⟨by repeat (first | (with_reducible first | exact HI102.out | apply IsS65.alloc | apply IsS65.drewN | apply IsS65.drew | apply IsS65.set_1 | apply IsS65.set_2 | apply IsS65.set_3 | refine IsS65.far ?_ NB102_101.out _ | refine IsS65.far ?_ NB102_111.out _) | exact HI102.out)⟩, ⟨by repeat (first | (with_reducible first | exact HB.out | apply below_alloc | apply pw_below_drewN | apply below_drew1 | refine below_set ?_ (IsS65.ge HI102.out) | refine below_set ?_ GE101.out | refine below_set ?_ GE111.out) | exact HB.out)⟩⟩
       ·rw [if_neg c26] at H
        exact absurd H (by simp)
      ·rw [if_neg c24] at H
       have c24b0 : (x103002_1 == 0) = false := beq_eq_false_iff_ne.mpr c24
       have c24b1 : (x103002_1 != 0) = true := bne_iff_ne.mpr c24
       have H' := Aside0.mk H
       clear H
       obtain ⟨ASz33_0, cSz33_0, HGz33, hgz33, ⟨HSz33_0, HTz33_0⟩⟩ := HI102.out
       have hcz33_0 := cellS65_0 HGz33
       have hcz33_1 := cellS65_1 HGz33
       have hcz33_2 := cellS65_2 HGz33
       have hcz33_3 := cellS65_3 HGz33
       have hfz33_1 := blk_frozen HGz33 1
       have hfz33_2 := blk_frozen HGz33 2
       have hfz33_3 := blk_frozen HGz33 3
       clear HGz33 hgz33
       go_wp2
       go_meet
       case rel => exact ⟨_, (x103001_1), (x103002_1), (x103003_1), (x112001_1), (u112001), H', ⟨by have := HK1.out; first | omega | exact Nat.le_refl _⟩, ⟨by (with_reducible repeat (first | apply Kd.R_alloc | apply Kd.R_drewN | apply Kd.R_drew)); exact HO_112001.out⟩, ⟨by (with_reducible repeat (first | refine blk_drewN ?_ _ | refine blk_drew ?_ | refine blk_alloc ?_ _)); exact BK101.out⟩, ⟨by (with_reducible repeat (first | refine blk_drewN ?_ _ | refine blk_drew ?_ | refine blk_alloc ?_ _)); exact BK111.out⟩, ⟨by repeat (first | (with_reducible first | exact HI102.out | apply IsS65.alloc | apply IsS65.drewN | apply IsS65.drew | apply IsS65.set_1 | apply IsS65.set_2 | apply IsS65.set_3 | refine IsS65.far ?_ NB102_101.out _ | refine IsS65.far ?_ NB102_111.out _) | exact HI102.out)⟩, ⟨by repeat (first | (with_reducible first | exact HB.out | apply below_alloc | apply pw_below_drewN | apply below_drew1 | refine below_set ?_ (IsS65.ge HI102.out) | refine below_set ?_ GE101.out | refine below_set ?_ GE111.out) | exact HB.out)⟩⟩
     ·rw [if_neg c23] at H
      have c23b0 : decide (0 < x8_1) = false := decide_eq_false c23
      clear c23
      (first | rw [c23b0] | (simp only [i64_w, i32_w]; rw [c23b0]) | skip)
      have H' := Aside0.mk H
      clear H
      go_wp2
      go_meet
      case rel => exact ⟨_, (x103001_1), (x103002_1), (x103003_1), (x112001_1), (u112001), H', ⟨by have := HK1.out; first | omega | exact Nat.le_refl _⟩, ⟨by (with_reducible repeat (first | apply Kd.R_alloc | apply Kd.R_drewN | apply Kd.R_drew)); exact HO_112001.out⟩, ⟨by (with_reducible repeat (first | refine blk_drewN ?_ _ | refine blk_drew ?_ | refine blk_alloc ?_ _)); exact BK101.out⟩, ⟨by (with_reducible repeat (first | refine blk_drewN ?_ _ | refine blk_drew ?_ | refine blk_alloc ?_ _)); exact BK111.out⟩, ⟨by repeat (first | (with_reducible first | exact HI102.out | apply IsS65.alloc | apply IsS65.drewN | apply IsS65.drew | apply IsS65.set_1 | apply IsS65.set_2 | apply IsS65.set_3 | refine IsS65.far ?_ NB102_101.out _ | refine IsS65.far ?_ NB102_111.out _) | exact HI102.out)⟩, ⟨by repeat (first | (with_reducible first | exact HB.out | apply below_alloc | apply pw_below_drewN | apply below_drew1 | refine below_set ?_ (IsS65.ge HI102.out) | refine below_set ?_ GE101.out | refine below_set ?_ GE111.out) | exact HB.out)⟩⟩
  case rest =>
   clear HC10
   try clear c1
   try clear c2
   try clear c2b0
   try clear c2b1
   try clear p2
   try clear c4
   try clear p6
   try clear c7
   try clear c17
   try clear c18
   try clear c20
   try clear c23
   try clear c23b0
   try clear c24
   try clear c24b0
   try clear c24b1
   try clear c26
   try clear hcz19_0
   try clear hcz19_1
   try clear hcz19_2
   try clear hcz19_3
   try clear hcz21_0
   try clear hcz21_1
   try clear hcz21_2
   try clear hcz21_3
   try clear hcz27_0
   try clear hcz27_1
   try clear hcz27_2
   try clear hcz27_3
   try clear hcz33_0
   try clear hcz33_1
   try clear hcz33_2
   try clear hcz33_3
   try clear hcz4_0
   try clear hcz4_1
   try clear hcz4_2
   try clear hcz4_3
   try clear hfz19_0
   try clear hfz19_1
   try clear hfz19_2
   try clear hfz19_3
   try clear hfz21_0
   try clear hfz21_1
   try clear hfz21_2
   try clear hfz21_3
   try clear hfz27_1
   try clear hfz27_2
   try clear hfz27_3
   try clear hfz33_1
   try clear hfz33_2
   try clear hfz33_3
   try clear hfz4_0
   try clear hfz4_1
   try clear hfz4_2
   try clear hfz4_3
   try clear p2
   obtain ⟨kq, x103001_9, x103002_9, x103003_9, x112001_9, u112001, HA, HJ9, HO_112001, BK101, BK111, HI102, HB⟩ := hcut
   cases kq with
   | zero => exact absurd HA.out (by simp [code_Decode.j1])
   | succ kj9 =>
    have H := HA.out
    clear HA
    simp only [code_Decode.j1] at H
    replace H := Option.bind_eq_some_iff.mp H
    obtain ⟨⟨t131, t132, t133, t134⟩, A340, H⟩ := H
    replace H : (code_Decode.l1 kj9 l0 t131 l0 t132 t133 t134 t112 x112001_9 ([] : List (S41)) t116) = some (r1, r2, r3, r4, r5, r6) := H
    have A34 := Aside0.mk A340
    clear A340
    have H' := Aside0.mk H
    clear H
    go_wp2_with (first | ((with_reducible refine gate_callee (f := 46) rfl ?_); refine goesL_ (some 53) rfl rfl Try.func46 (by kernel_rfl) rfl #[.pointer (some ⟨gb102, 0, none⟩), .int .i64 32768] rfl (by (try simp only [List.map_toArray, List.map_cons, List.map_nil]); first | done | rfl | (simp only [List.length_drop, List.length_take]; rfl)) ?_; (with_reducible refine (code_source_number.calls kj9 gb102 l0 x103001_9 x103002_9 x103003_9 32768 t131 t132 t133 t134 w _ ?side1 ?side2 A34.out).mono ?_); (case side1 => repeat (first | (with_reducible first | exact HI102.out | apply IsS65.alloc | apply IsS65.drewN | apply IsS65.drew | apply IsS65.set_1 | apply IsS65.set_2 | apply IsS65.set_3 | refine IsS65.far ?_ NB102_101.out _ | refine IsS65.far ?_ NB102_111.out _) | exact HI102.out)); (case side2 => repeat (first | (with_reducible first | exact HB.out | apply below_alloc | apply pw_below_drewN | apply below_drew1 | refine below_set ?_ (IsS65.ge HI102.out) | refine below_set ?_ GE101.out | refine below_set ?_ GE111.out) | exact HB.out)); rintro e w35 ⟨rfl, hi, hb, hk⟩; refine ⟨_, rfl, ?_⟩; have n0_ := Aside0.mk (Kd.R_mono (Kd.R_keep (IsS65.apart (show IsS65 w _ gb102 l0 x103001_9 x103002_9 x103003_9 from by repeat (first | (with_reducible first | exact HI102.out | apply IsS65.alloc | apply IsS65.drewN | apply IsS65.drew | apply IsS65.set_1 | apply IsS65.set_2 | apply IsS65.set_3 | refine IsS65.far ?_ NB102_101.out _ | refine IsS65.far ?_ NB102_111.out _) | exact HI102.out)) (kr HO_112001) (by decide)) hk (fun _ h => h.2)) (fun _ h => h.1)); have n1_ := Aside0.mk (KeepBut.blk hk (g' := gb101) (o := .cells #[.int .u8 0, .slice none 0 0, .slice none 0 0, .int .i64 0] 25 (0, 0)) (bk BK101) NB101_102.out (by simp)); have n2_ := Aside0.mk (KeepBut.blk hk (g' := gb111) (o := .cells #[.int .u8 t112, u112001, .slice none 0 0, .int .i64 t116] 25 (0, 0)) (bk BK111) NB111_102.out (by simp)); have n3_ := Aside0.mk (hb); have n4_ := Aside0.mk (hi); clear HO_112001; clear BK101; clear BK111; clear HB; clear HI102; have HO_112001 := n0_; have BK101 := n1_; have BK111 := n2_; have HB := n3_; have HI102 := n4_; clear n0_ n1_ n2_ n3_ n4_; (try clear hb); (try clear hb2); (try clear hk); (try clear hi)))
    go_loopg [9] kj9 (fun kq v9 w' => ∃ (x9_2 : Int) (x103001_2 : Int) (x103002_2 : Int) (x103003_2 : Int) (x112002_2 : List (S41)) (u112002 : Value), v9 = .int .i64 x9_2 ∧ Aside0 (code_Decode.l1 kq l0 x9_2 l0 x103001_2 x103002_2 x103003_2 t112 x112001_9 x112002_2 t116 = some (r1, r2, r3, r4, r5, r6)) ∧ Aside0 (kq ≤ kj9) ∧ Aside0 (Kd.R Kd.string 9 w' w.heap.size (fun _ => True) u112001 x112001_9) ∧ Aside0 (Kd.R k41 41 w' w.heap.size (fun _ => True) u112002 x112002_2) ∧ Aside0 (w'.heap[gb101]? = some (.cells #[.int .u8 0, (.slice none 0 0), (.slice none 0 0), .int .i64 0] 25 (0, 0))) ∧ Aside0 (w'.heap[gb111]? = some (.cells #[.int .u8 t112, u112001, u112002, .int .i64 t116] 25 (0, 0))) ∧ Aside0 (IsS65 w w' gb102 l0 x103001_2 x103002_2 x103003_2) ∧ Aside0 (Below w.heap.size w w'))
    case atStart => exact ⟨(t131), (t132), (t133), (t134), (([] : List (S41))), (.slice none 0 0), (by first | rfl | (simp; done) | (simp [*]; done)), H', ⟨Nat.le_refl _⟩, ⟨by (with_reducible repeat (first | apply Kd.R_alloc | apply Kd.R_drewN | apply Kd.R_drew)); exact HO_112001.out⟩, ⟨by first | exact Kd.R_nil _ _ _ _ _ | exact Kd.N_nil _ _ _ _ _ | exact Kd.V_nil _ _ _ _ _ | exact Kd.Q_nil _ _ _ _ _ | exact Kd.S_nil _ _ _ _ _⟩, ⟨by (with_reducible repeat (first | refine blk_drewN ?_ _ | refine blk_drew ?_ | refine blk_alloc ?_ _)); exact BK101.out⟩, ⟨by (with_reducible repeat (first | refine blk_drewN ?_ _ | refine blk_drew ?_ | refine blk_alloc ?_ _)); exact BK111.out⟩, ⟨by repeat (first | (with_reducible first | exact HI102.out | apply IsS65.alloc | apply IsS65.drewN | apply IsS65.drew | apply IsS65.set_1 | apply IsS65.set_2 | apply IsS65.set_3 | refine IsS65.far ?_ NB102_101.out _ | refine IsS65.far ?_ NB102_111.out _) | exact HI102.out)⟩, ⟨by repeat (first | (with_reducible first | exact HB.out | apply below_alloc | apply pw_below_drewN | apply below_drew1 | refine below_set ?_ (IsS65.ge HI102.out) | refine below_set ?_ GE101.out | refine below_set ?_ GE111.out) | exact HB.out)⟩⟩
    case round =>
     clear H'
     try clear c1
     try clear c2
     try clear c2b0
     try clear c2b1
     try clear p2
     try clear c4
     try clear p6
     try clear c7
     try clear c17
     try clear c18
     try clear c20
     try clear c23
     try clear c23b0
     try clear c24
     try clear c24b0
     try clear c24b1
     try clear c26
     try clear hcz19_0
     try clear hcz19_1
     try clear hcz19_2
     try clear hcz19_3
     try clear hcz21_0
     try clear hcz21_1
     try clear hcz21_2
     try clear hcz21_3
     try clear hcz27_0
     try clear hcz27_1
     try clear hcz27_2
     try clear hcz27_3
     try clear hcz33_0
     try clear hcz33_1
     try clear hcz33_2
     try clear hcz33_3
     try clear hcz4_0
     try clear hcz4_1
     try clear hcz4_2
     try clear hcz4_3
     try clear hfz19_0
     try clear hfz19_1
     try clear hfz19_2
     try clear hfz19_3
     try clear hfz21_0
     try clear hfz21_1
     try clear hfz21_2
     try clear hfz21_3
     try clear hfz27_1
     try clear hfz27_2
     try clear hfz27_3
     try clear hfz33_1
     try clear hfz33_2
     try clear hfz33_3
     try clear hfz4_0
     try clear hfz4_1
     try clear hfz4_2
     try clear hfz4_3
     try clear p2
     try clear p6
     obtain ⟨x9_2, x103001_2, x103002_2, x103003_2, x112002_2, u112002, rfl, HA, HK2, HO_112001, HO_112002, BK101, BK111, HI102, HB⟩ := hrel
     cases gk with
     | zero => exact absurd HA.out (by simp [code_Decode.l1])
     | succ k2 =>
      have H := HA.out
      clear HA
      simp only [code_Decode.l1] at H
      have HC36 := Aside0.mk H
      clear H
      go_upto_region 15 with (fail)
      go_cut [62] (fun v62 wc => ∃ (kq : Nat) (x62_35 : Bool), v62 = .bool x62_35 ∧ Aside0 (code_Decode.j3 kq l0 x9_2 x62_35 l0 x103001_2 x103002_2 x103003_2 t112 x112001_9 x112002_2 t116 = some (r1, r2, r3, r4, r5, r6)) ∧ Aside0 (kq ≤ k2) ∧ Aside0 (Kd.R Kd.string 9 wc w.heap.size (fun _ => True) u112001 x112001_9) ∧ Aside0 (Kd.R k41 41 wc w.heap.size (fun _ => True) u112002 x112002_2) ∧ Aside0 (wc.heap[gb101]? = some (.cells #[.int .u8 0, (.slice none 0 0), (.slice none 0 0), .int .i64 0] 25 (0, 0))) ∧ Aside0 (wc.heap[gb111]? = some (.cells #[.int .u8 t112, u112001, u112002, .int .i64 t116] 25 (0, 0))) ∧ Aside0 (IsS65 w wc gb102 l0 x103001_2 x103002_2 x103003_2) ∧ Aside0 (Below w.heap.size w wc))
      case first =>
       have H := HC36.out
       clear HC36
       by_cases c37 : x9_2 > 0
       ·rw [if_pos c37] at H
        have c37b0 : decide (0 < x9_2) = true := decide_eq_true c37
        clear c37
        (first | rw [c37b0] | (simp only [i64_w, i32_w]; rw [c37b0]) | skip)
        have H' := Aside0.mk H
        clear H
        obtain ⟨ASz38_0, cSz38_0, HGz38, hgz38, ⟨HSz38_0, HTz38_0⟩⟩ := HI102.out
        have hcz38_0 := cellS65_0 HGz38
        have hcz38_1 := cellS65_1 HGz38
        have hcz38_2 := cellS65_2 HGz38
        have hcz38_3 := cellS65_3 HGz38
        have hfz38_1 := blk_frozen HGz38 1
        have hfz38_2 := blk_frozen HGz38 2
        have hfz38_3 := blk_frozen HGz38 3
        clear HGz38 hgz38
        go_wp2
        go_meet
        case rel => exact ⟨_, ((x103002_2 == 0)), (by first | rfl | (simp; done) | (simp [*]; done)), H', ⟨by have := HJ9.out; have := HK2.out; first | omega | exact Nat.le_refl _⟩, ⟨by (with_reducible repeat (first | apply Kd.R_alloc | apply Kd.R_drewN | apply Kd.R_drew)); exact HO_112001.out⟩, ⟨by (with_reducible repeat (first | apply Kd.R_alloc | apply Kd.R_drewN | apply Kd.R_drew)); exact HO_112002.out⟩, ⟨by (with_reducible repeat (first | refine blk_drewN ?_ _ | refine blk_drew ?_ | refine blk_alloc ?_ _)); exact BK101.out⟩, ⟨by (with_reducible repeat (first | refine blk_drewN ?_ _ | refine blk_drew ?_ | refine blk_alloc ?_ _)); exact BK111.out⟩, ⟨by repeat (first | (with_reducible first | exact HI102.out | apply IsS65.alloc | apply IsS65.drewN | apply IsS65.drew | apply IsS65.set_1 | apply IsS65.set_2 | apply IsS65.set_3 | refine IsS65.far ?_ NB102_101.out _ | refine IsS65.far ?_ NB102_111.out _) | exact HI102.out)⟩, ⟨by repeat (first | (with_reducible first | exact HB.out | apply below_alloc | apply pw_below_drewN | apply below_drew1 | refine below_set ?_ (IsS65.ge HI102.out) | refine below_set ?_ GE101.out | refine below_set ?_ GE111.out) | exact HB.out)⟩⟩
       ·rw [if_neg c37] at H
        have c37b0 : decide (0 < x9_2) = false := decide_eq_false c37
        clear c37
        (first | rw [c37b0] | (simp only [i64_w, i32_w]; rw [c37b0]) | skip)
        have H' := Aside0.mk H
        clear H
        go_wp2
        go_meet
        case rel => exact ⟨_, (false), (by first | rfl | (simp; done) | (simp [*]; done)), H', ⟨by have := HJ9.out; have := HK2.out; first | omega | exact Nat.le_refl _⟩, ⟨by (with_reducible repeat (first | apply Kd.R_alloc | apply Kd.R_drewN | apply Kd.R_drew)); exact HO_112001.out⟩, ⟨by (with_reducible repeat (first | apply Kd.R_alloc | apply Kd.R_drewN | apply Kd.R_drew)); exact HO_112002.out⟩, ⟨by (with_reducible repeat (first | refine blk_drewN ?_ _ | refine blk_drew ?_ | refine blk_alloc ?_ _)); exact BK101.out⟩, ⟨by (with_reducible repeat (first | refine blk_drewN ?_ _ | refine blk_drew ?_ | refine blk_alloc ?_ _)); exact BK111.out⟩, ⟨by repeat (first | (with_reducible first | exact HI102.out | apply IsS65.alloc | apply IsS65.drewN | apply IsS65.drew | apply IsS65.set_1 | apply IsS65.set_2 | apply IsS65.set_3 | refine IsS65.far ?_ NB102_101.out _ | refine IsS65.far ?_ NB102_111.out _) | exact HI102.out)⟩, ⟨by repeat (first | (with_reducible first | exact HB.out | apply below_alloc | apply pw_below_drewN | apply below_drew1 | refine below_set ?_ (IsS65.ge HI102.out) | refine below_set ?_ GE101.out | refine below_set ?_ GE111.out) | exact HB.out)⟩⟩
      case rest =>
       clear HC36
       try clear c1
       try clear c2
       try clear c2b0
       try clear c2b1
       try clear p2
       try clear c3
       try clear c4
       try clear p6
       try clear c7
       try clear c17
       try clear c18
       try clear c20
       try clear c23
       try clear c23b0
       try clear c24
       try clear c24b0
       try clear c24b1
       try clear c26
       try clear c37
       try clear c37b0
       try clear hcz19_0
       try clear hcz19_1
       try clear hcz19_2
       try clear hcz19_3
       try clear hcz21_0
       try clear hcz21_1
       try clear hcz21_2
       try clear hcz21_3
       try clear hcz27_0
       try clear hcz27_1
       try clear hcz27_2
       try clear hcz27_3
       try clear hcz33_0
       try clear hcz33_1
       try clear hcz33_2
       try clear hcz33_3
       try clear hcz38_0
       try clear hcz38_1
       try clear hcz38_2
       try clear hcz38_3
       try clear hcz4_0
       try clear hcz4_1
       try clear hcz4_2
       try clear hcz4_3
       try clear hfz19_0
       try clear hfz19_1
       try clear hfz19_2
       try clear hfz19_3
       try clear hfz21_0
       try clear hfz21_1
       try clear hfz21_2
       try clear hfz21_3
       try clear hfz27_1
       try clear hfz27_2
       try clear hfz27_3
       try clear hfz33_1
       try clear hfz33_2
       try clear hfz33_3
       try clear hfz38_1
       try clear hfz38_2
       try clear hfz38_3
       try clear hfz4_0
       try clear hfz4_1
       try clear hfz4_2
       try clear hfz4_3
       try clear p2
       try clear p6
       obtain ⟨kq, x62_35, rfl, HA, HJ35, HO_112001, HO_112002, BK101, BK111, HI102, HB⟩ := hcut
       cases kq with
       | zero => exact absurd HA.out (by simp [code_Decode.j3])
       | succ kj35 =>
        have H := HA.out
        clear HA
        simp only [code_Decode.j3] at H
        by_cases c39 : x62_35 = true
        ·subst c39
         have H1 : ((octetO.f l0 x103001_2 x103002_2 x103003_2).bind fun bt135 => ((code_of.f kj35 bt135.1).bind fun t140 => (if (Go.bits .and .u8 t140 1) = 0 then (code_Decode.j4 kj35 l0 x9_2 l0 bt135.2.1 bt135.2.2.1 bt135.2.2.2 t112 x112001_9 x112002_2 t116 bt135.1 0 0) else ((code_source_number.f kj35 l0 bt135.2.1 bt135.2.2.1 bt135.2.2.2 2147483647).bind fun bt141 => (code_Decode.j4 kj35 l0 x9_2 l0 bt141.2.1 bt141.2.2.1 bt141.2.2.2 t112 x112001_9 x112002_2 t116 bt135.1 bt141.1 0))))) = some (r1, r2, r3, r4, r5, r6) := by rw [if_pos rfl] at H; exact H
         clear H
         have H := H1
         clear H1
         replace H := Option.bind_eq_some_iff.mp H
         obtain ⟨⟨t135, t136, t137, t138⟩, A400, H⟩ := H
         replace H : ((code_of.f kj35 t135).bind fun t140 => (if (Go.bits .and .u8 t140 1) = 0 then (code_Decode.j4 kj35 l0 x9_2 l0 t136 t137 t138 t112 x112001_9 x112002_2 t116 t135 0 0) else ((code_source_number.f kj35 l0 t136 t137 t138 2147483647).bind fun bt141 => (code_Decode.j4 kj35 l0 x9_2 l0 bt141.2.1 bt141.2.2.1 bt141.2.2.2 t112 x112001_9 x112002_2 t116 t135 bt141.1 0)))) = some (r1, r2, r3, r4, r5, r6) := H
         have A40 := Aside0.mk A400
         clear A400
         replace H := Option.bind_eq_some_iff.mp H
         obtain ⟨t140, A410, H⟩ := H
         replace H : (if (Go.bits .and .u8 t140 1) = 0 then (code_Decode.j4 kj35 l0 x9_2 l0 t136 t137 t138 t112 x112001_9 x112002_2 t116 t135 0 0) else ((code_source_number.f kj35 l0 t136 t137 t138 2147483647).bind fun bt141 => (code_Decode.j4 kj35 l0 x9_2 l0 bt141.2.1 bt141.2.2.1 bt141.2.2.2 t112 x112001_9 x112002_2 t116 t135 bt141.1 0))) = some (r1, r2, r3, r4, r5, r6) := H
         have A41 := Aside0.mk A410
         clear A410
         have HC42 := Aside0.mk H
         clear H
         go_upto_if 72 with (first | ((with_reducible refine gate_callee (f := 44) rfl ?_); refine goesL_ (some 66) rfl rfl Try.func44 (by kernel_rfl) rfl #[.pointer (some ⟨gb102, 0, none⟩), .func (.func 48) #[] #[]] rfl (by (try simp only [List.map_toArray, List.map_cons, List.map_nil]); first | done | rfl | (simp only [List.length_drop, List.length_take]; rfl)) ?_; (with_reducible refine (octetO.calls gb102 l0 x103001_2 x103002_2 x103003_2  t135 t136 t137 t138 w _ ?side1 ?side2 A40.out).mono ?_); (case side1 => repeat (first | (with_reducible first | exact HI102.out | apply IsS65.alloc | apply IsS65.drewN | apply IsS65.drew | apply IsS65.set_1 | apply IsS65.set_2 | apply IsS65.set_3 | refine IsS65.far ?_ NB102_101.out _ | refine IsS65.far ?_ NB102_111.out _) | exact HI102.out)); (case side2 => repeat (first | (with_reducible first | exact HB.out | apply below_alloc | apply pw_below_drewN | apply below_drew1 | refine below_set ?_ (IsS65.ge HI102.out) | refine below_set ?_ GE101.out | refine below_set ?_ GE111.out) | exact HB.out)); rintro e w43 ⟨rfl, hi, hb, hk⟩; refine ⟨_, rfl, ?_⟩; have n0_ := Aside0.mk (Kd.R_mono (Kd.R_keep (IsS65.apart (show IsS65 w _ gb102 l0 x103001_2 x103002_2 x103003_2 from by repeat (first | (with_reducible first | exact HI102.out | apply IsS65.alloc | apply IsS65.drewN | apply IsS65.drew | apply IsS65.set_1 | apply IsS65.set_2 | apply IsS65.set_3 | refine IsS65.far ?_ NB102_101.out _ | refine IsS65.far ?_ NB102_111.out _) | exact HI102.out)) (kr HO_112001) (by decide)) hk (fun _ h => h.2)) (fun _ h => h.1)); have n1_ := Aside0.mk (Kd.R_mono (Kd.R_keep (IsS65.apart (show IsS65 w _ gb102 l0 x103001_2 x103002_2 x103003_2 from by repeat (first | (with_reducible first | exact HI102.out | apply IsS65.alloc | apply IsS65.drewN | apply IsS65.drew | apply IsS65.set_1 | apply IsS65.set_2 | apply IsS65.set_3 | refine IsS65.far ?_ NB102_101.out _ | refine IsS65.far ?_ NB102_111.out _) | exact HI102.out)) (kr HO_112002) (by decide)) hk (fun _ h => h.2)) (fun _ h => h.1)); have n2_ := Aside0.mk (KeepBut.blk hk (g' := gb101) (o := .cells #[.int .u8 0, .slice none 0 0, .slice none 0 0, .int .i64 0] 25 (0, 0)) (bk BK101) NB101_102.out (by simp)); have n3_ := Aside0.mk (KeepBut.blk hk (g' := gb111) (o := .cells #[.int .u8 t112, u112001, u112002, .int .i64 t116] 25 (0, 0)) (bk BK111) NB111_102.out (by simp)); have n4_ := Aside0.mk (hb); have n5_ := Aside0.mk (hi); clear HO_112001; clear HO_112002; clear BK101; clear BK111; clear HB; clear HI102; have HO_112001 := n0_; have HO_112002 := n1_; have BK101 := n2_; have BK111 := n3_; have HB := n4_; have HI102 := n5_; clear n0_ n1_ n2_ n3_ n4_ n5_; (try clear hb); (try clear hb2); (try clear hk); (try clear hi)) | ((with_reducible refine gate_dst (N := 10) rfl ?_); refine box_event ?hg (N := 10) ?hd (cs := #[.int .u8 0, .int .i64 0, .int .i64 0]) (t := 41) ?hr ?_; (case hd => rfl); (case hg => rfl); (case hr => first | (go_simp; done) | (go_simp; rfl)); intro gb139 hg w44 hbox hb; have n0_ := Aside0.mk (Kd.R_below (kr HO_112001) hb); have n1_ := Aside0.mk (Kd.R_below (Kd.R_elderB (kr HO_112002) gb139 (Nat.le_of_eq hg.symm)) hb); have n2_ := Aside0.mk (blk_below (g := gb101) (o := .cells #[.int .u8 0, .slice none 0 0, .slice none 0 0, .int .i64 0] 25 (0, 0)) (bk BK101) hb); have n3_ := Aside0.mk (blk_below (g := gb111) (o := .cells #[.int .u8 t112, u112001, u112002, .int .i64 t116] 25 (0, 0)) (bk BK111) hb); have n4_ := Aside0.mk (IsS65.below (by repeat (first | (with_reducible first | exact HI102.out | apply IsS65.alloc | apply IsS65.drewN | apply IsS65.drew | apply IsS65.set_1 | apply IsS65.set_2 | apply IsS65.set_3 | refine IsS65.far ?_ NB102_101.out _ | refine IsS65.far ?_ NB102_111.out _) | exact HI102.out)) hb); have n5_ := Aside0.mk (below_step (by repeat (first | (with_reducible first | exact HB.out | apply below_alloc | apply pw_below_drewN | apply below_drew1 | refine below_set ?_ (IsS65.ge HI102.out) | refine below_set ?_ GE101.out | refine below_set ?_ GE111.out) | exact HB.out)) hb); have n6_ := Aside0.mk (hbox); have n7_ := Aside0.mk ((by rw [hg]; exact (below_size (by repeat (first | (with_reducible first | exact HB.out | apply below_alloc | apply pw_below_drewN | apply below_drew1 | refine below_set ?_ (IsS65.ge HI102.out) | refine below_set ?_ GE101.out | refine below_set ?_ GE111.out) | exact HB.out))) : w.heap.size ≤ gb139)); have n8_ := Aside0.mk ((by rw [hg]; exact (below_size (by repeat (first | (with_reducible first | exact HB.out | apply below_alloc | apply pw_below_drewN | apply below_drew1 | refine below_set ?_ (IsS65.ge HI102.out) | refine below_set ?_ GE101.out | refine below_set ?_ GE111.out) | exact HB.out))) : w.heap.size ≤ gb139)); have n9_ := Aside0.mk ((by rw [hg]; exact Nat.ne_of_lt (blk_lt (g := gb101) (o := .cells #[.int .u8 0, .slice none 0 0, .slice none 0 0, .int .i64 0] 25 (0, 0)) (bk BK101)) : gb101 ≠ gb139)); have n10_ := Aside0.mk ((by rw [hg]; exact Nat.ne_of_gt (blk_lt (g := gb101) (o := .cells #[.int .u8 0, .slice none 0 0, .slice none 0 0, .int .i64 0] 25 (0, 0)) (bk BK101)) : gb139 ≠ gb101)); have n11_ := Aside0.mk ((by rw [hg]; exact Nat.ne_of_lt (blk_lt (g := gb111) (o := .cells #[.int .u8 t112, u112001, u112002, .int .i64 t116] 25 (0, 0)) (bk BK111)) : gb111 ≠ gb139)); have n12_ := Aside0.mk ((by rw [hg]; exact Nat.ne_of_gt (blk_lt (g := gb111) (o := .cells #[.int .u8 t112, u112001, u112002, .int .i64 t116] 25 (0, 0)) (bk BK111)) : gb139 ≠ gb111)); have n13_ := Aside0.mk ((by rw [hg]; exact Nat.ne_of_lt (IsS65.lt (show IsS65 w _ gb102 l0 t136 t137 t138 from by repeat (first | (with_reducible first | exact HI102.out | apply IsS65.alloc | apply IsS65.drewN | apply IsS65.drew | apply IsS65.set_1 | apply IsS65.set_2 | apply IsS65.set_3 | refine IsS65.far ?_ NB102_101.out _ | refine IsS65.far ?_ NB102_111.out _) | exact HI102.out))) : gb102 ≠ gb139)); have n14_ := Aside0.mk ((by rw [hg]; exact Nat.ne_of_gt (IsS65.lt (show IsS65 w _ gb102 l0 t136 t137 t138 from by repeat (first | (with_reducible first | exact HI102.out | apply IsS65.alloc | apply IsS65.drewN | apply IsS65.drew | apply IsS65.set_1 | apply IsS65.set_2 | apply IsS65.set_3 | refine IsS65.far ?_ NB102_101.out _ | refine IsS65.far ?_ NB102_111.out _) | exact HI102.out))) : gb139 ≠ gb102)); clear HO_112001; clear HO_112002; clear BK101; clear BK111; clear HI102; clear HB; have HO_112001 := n0_; have HO_112002 := n1_; have BK101 := n2_; have BK111 := n3_; have HI102 := n4_; have HB := n5_; have BK139 := n6_; have GW139 := n7_; have GE139 := n8_; have NB101_139 := n9_; have NB139_101 := n10_; have NB111_139 := n11_; have NB139_111 := n12_; have NB102_139 := n13_; have NB139_102 := n14_; clear n0_ n1_ n2_ n3_ n4_ n5_ n6_ n7_ n8_ n9_ n10_ n11_ n12_ n13_ n14_; clear hb hbox hg; have hnb45 := NB139_101.out; have hnc45 := NB101_139.out; have hnb46 := NB139_111.out; have hnc46 := NB111_139.out; have hnb47 := NB139_102.out; have hnc47 := NB102_139.out; have hcz48_0 : w44.cell? ⟨gb139, 0, none⟩ = some (.int .u8 0) := (blk_cell BK139.out 0).trans rfl; have hcz48_1 : w44.cell? ⟨gb139, 1, none⟩ = some (.int .i64 0) := (blk_cell BK139.out 1).trans rfl; have hcz48_2 : w44.cell? ⟨gb139, 2, none⟩ = some (.int .i64 0) := (blk_cell BK139.out 2).trans rfl; have hfz48_0 := blk_frozen BK139.out 0; have hfz48_1 := blk_frozen BK139.out 1; have hfz48_2 := blk_frozen BK139.out 2) | ((with_reducible refine gate_callee (f := 49) rfl ?_); refine goesL_ (some 70) rfl rfl Try.func49 (by kernel_rfl) rfl #[.int .u8 t135] rfl (by (try simp only [List.map_toArray, List.map_cons, List.map_nil]); first | done | rfl | (simp only [List.length_drop, List.length_take]; rfl)) ?_; (with_reducible refine (code_of.calls kj35 t135 t140 _ A41.out).mono ?_); rintro e w' ⟨rfl, ⟨nd, rfl⟩⟩; refine ⟨_, rfl, ?_⟩))
         (try simp only [Act.put, List.setIfInBounds_toArray, List.set_cons_zero, List.set_cons_succ])
         go_cut [] (fun wc => ∃ (kq : Nat) (x103001_41 : Int) (x103002_41 : Int) (x103003_41 : Int) (x140001_41 : Int), Aside0 (code_Decode.j4 kq l0 x9_2 l0 x103001_41 x103002_41 x103003_41 t112 x112001_9 x112002_2 t116 t135 x140001_41 0 = some (r1, r2, r3, r4, r5, r6)) ∧ Aside0 (kq ≤ kj35) ∧ Aside0 (Kd.R Kd.string 9 wc w.heap.size (fun _ => True) u112001 x112001_9) ∧ Aside0 (Kd.R k41 41 wc w.heap.size (fun k_ => k_ ≠ gb139) u112002 x112002_2) ∧ Aside0 (wc.heap[gb101]? = some (.cells #[.int .u8 0, (.slice none 0 0), (.slice none 0 0), .int .i64 0] 25 (0, 0))) ∧ Aside0 (wc.heap[gb111]? = some (.cells #[.int .u8 t112, u112001, u112002, .int .i64 t116] 25 (0, 0))) ∧ Aside0 (wc.heap[gb139]? = some (.cells #[.int .u8 t135, .int .i64 x140001_41, .int .i64 0] 41 (0, 0))) ∧ Aside0 (IsS65 w wc gb102 l0 x103001_41 x103002_41 x103003_41) ∧ Aside0 (Below w.heap.size w wc))
         case first =>
          have H := HC42.out
          clear HC42
          by_cases c49 : (Go.bits .and .u8 t140 1) = 0
          ·rw [if_pos c49] at H
           have c49b0 : ((Go.bits .and .u8 t140 1) == 0) = true := beq_iff_eq.mpr c49
           have c49b1 : ((Go.bits .and .u8 t140 1) != 0) = false := bne_eq_false_iff_eq.mpr c49
           clear c49
           (first | rw [c49b0] | (simp only [i64_w, i32_w]; rw [c49b0]) | skip)
           have H' := Aside0.mk H
           clear H
           go_wp2
           go_meet
           case rel => exact ⟨_, (t136), (t137), (t138), (0), H', ⟨by have := HJ9.out; have := HK2.out; have := HJ35.out; first | omega | exact Nat.le_refl _⟩, ⟨by (with_reducible repeat (first | apply Kd.R_alloc | apply Kd.R_drewN | apply Kd.R_drew)); exact Kd.R_mono (Kd.R_far (p := ⟨gb139, 2, none⟩) (Kd.R_far (p := ⟨gb139, 1, none⟩) (Kd.R_far (p := ⟨gb139, 0, none⟩) (Kd.R_types HO_112001.out BK139.out (by decide)) (fun _ hk => hk.2) (.int .u8 t135)) (fun _ hk => hk.2) (.int .i64 0)) (fun _ hk => hk.2) (.int .i64 0)) (fun _ hk => trivial)⟩, ⟨by (with_reducible repeat (first | apply Kd.R_alloc | apply Kd.R_drewN | apply Kd.R_drew)); exact Kd.R_mono (Kd.R_far (p := ⟨gb139, 2, none⟩) (Kd.R_far (p := ⟨gb139, 1, none⟩) (Kd.R_far (p := ⟨gb139, 0, none⟩) (Kd.R_mono HO_112002.out (fun k_ hk => (⟨hk, hk.2⟩ : _ ∧ k_ ≠ gb139))) (fun _ hk => hk.2) (.int .u8 t135)) (fun _ hk => hk.2) (.int .i64 0)) (fun _ hk => hk.2) (.int .i64 0)) (fun _ hk => hk.1.2)⟩, ⟨by (with_reducible repeat (first | refine blk_drewN ?_ _ | refine blk_drew ?_ | refine blk_alloc ?_ _)); refine blk_far ?_ NB101_139.out _; (with_reducible repeat (first | refine blk_drewN ?_ _ | refine blk_drew ?_ | refine blk_alloc ?_ _)); refine blk_far ?_ NB101_139.out _; (with_reducible repeat (first | refine blk_drewN ?_ _ | refine blk_drew ?_ | refine blk_alloc ?_ _)); refine blk_far ?_ NB101_139.out _; (with_reducible repeat (first | refine blk_drewN ?_ _ | refine blk_drew ?_ | refine blk_alloc ?_ _)); exact BK101.out⟩, ⟨by (with_reducible repeat (first | refine blk_drewN ?_ _ | refine blk_drew ?_ | refine blk_alloc ?_ _)); refine blk_far ?_ NB111_139.out _; (with_reducible repeat (first | refine blk_drewN ?_ _ | refine blk_drew ?_ | refine blk_alloc ?_ _)); refine blk_far ?_ NB111_139.out _; (with_reducible repeat (first | refine blk_drewN ?_ _ | refine blk_drew ?_ | refine blk_alloc ?_ _)); refine blk_far ?_ NB111_139.out _; (with_reducible repeat (first | refine blk_drewN ?_ _ | refine blk_drew ?_ | refine blk_alloc ?_ _)); exact BK111.out⟩, ⟨by (with_reducible repeat (first | refine blk_drewN ?_ _ | refine blk_drew ?_ | refine blk_alloc ?_ _)); refine blk_put (cs := #[.int .u8 t135, .int .i64 0, .int .i64 0]) ?_ 2 _ rfl; (with_reducible repeat (first | refine blk_drewN ?_ _ | refine blk_drew ?_ | refine blk_alloc ?_ _)); refine blk_put (cs := #[.int .u8 t135, .int .i64 0, .int .i64 0]) ?_ 1 _ rfl; (with_reducible repeat (first | refine blk_drewN ?_ _ | refine blk_drew ?_ | refine blk_alloc ?_ _)); refine blk_put (cs := #[.int .u8 0, .int .i64 0, .int .i64 0]) ?_ 0 _ rfl; (with_reducible repeat (first | refine blk_drewN ?_ _ | refine blk_drew ?_ | refine blk_alloc ?_ _)); exact BK139.out⟩, ⟨by repeat (first | (with_reducible first | exact HI102.out | apply IsS65.alloc | apply IsS65.drewN | apply IsS65.drew | apply IsS65.set_1 | apply IsS65.set_2 | apply IsS65.set_3 | refine IsS65.far ?_ NB102_101.out _ | refine IsS65.far ?_ NB102_111.out _ | refine IsS65.far ?_ NB102_139.out _) | exact HI102.out)⟩, ⟨by repeat (first | (with_reducible first | exact HB.out | apply below_alloc | apply pw_below_drewN | apply below_drew1 | refine below_set ?_ (IsS65.ge HI102.out) | refine below_set ?_ GE101.out | refine below_set ?_ GE111.out | refine below_set ?_ GE139.out) | exact HB.out)⟩⟩
          ·rw [if_neg c49] at H
           have c49b0 : ((Go.bits .and .u8 t140 1) == 0) = false := beq_eq_false_iff_ne.mpr c49
           have c49b1 : ((Go.bits .and .u8 t140 1) != 0) = true := bne_iff_ne.mpr c49
           (first | rw [c49b0] | (simp only [i64_w, i32_w]; rw [c49b0]) | skip)
           replace H := Option.bind_eq_some_iff.mp H
           obtain ⟨⟨t141, t142, t143, t144⟩, A500, H⟩ := H
           replace H : (code_Decode.j4 kj35 l0 x9_2 l0 t142 t143 t144 t112 x112001_9 x112002_2 t116 t135 t141 0) = some (r1, r2, r3, r4, r5, r6) := H
           have A50 := Aside0.mk A500
           clear A500
           have H' := Aside0.mk H
           clear H
           go_wp2_with (first | ((with_reducible refine gate_callee (f := 46) rfl ?_); refine goesL_ (some 74) rfl rfl Try.func46 (by kernel_rfl) rfl #[.pointer (some ⟨gb102, 0, none⟩), .int .i64 2147483647] rfl (by (try simp only [List.map_toArray, List.map_cons, List.map_nil]); first | done | rfl | (simp only [List.length_drop, List.length_take]; rfl)) ?_; (with_reducible refine (code_source_number.calls kj35 gb102 l0 t136 t137 t138 2147483647 t141 t142 t143 t144 w _ ?side1 ?side2 A50.out).mono ?_); (case side1 => repeat (first | (with_reducible first | exact HI102.out | apply IsS65.alloc | apply IsS65.drewN | apply IsS65.drew | apply IsS65.set_1 | apply IsS65.set_2 | apply IsS65.set_3 | refine IsS65.far ?_ NB102_101.out _ | refine IsS65.far ?_ NB102_111.out _ | refine IsS65.far ?_ NB102_139.out _) | exact HI102.out)); (case side2 => repeat (first | (with_reducible first | exact HB.out | apply below_alloc | apply pw_below_drewN | apply below_drew1 | refine below_set ?_ (IsS65.ge HI102.out) | refine below_set ?_ GE101.out | refine below_set ?_ GE111.out | refine below_set ?_ GE139.out) | exact HB.out)); rintro e w51 ⟨rfl, hi, hb, hk⟩; refine ⟨_, rfl, ?_⟩; have n0_ := Aside0.mk (Kd.R_mono (Kd.R_keep (IsS65.apart (show IsS65 w _ gb102 l0 t136 t137 t138 from by repeat (first | (with_reducible first | exact HI102.out | apply IsS65.alloc | apply IsS65.drewN | apply IsS65.drew | apply IsS65.set_1 | apply IsS65.set_2 | apply IsS65.set_3 | refine IsS65.far ?_ NB102_101.out _ | refine IsS65.far ?_ NB102_111.out _ | refine IsS65.far ?_ NB102_139.out _) | exact HI102.out)) (by (with_reducible repeat (first | apply Kd.R_alloc | apply Kd.R_drewN | apply Kd.R_drew)); exact (Kd.R_mono (Kd.R_far (p := ⟨gb139, 2, none⟩) (Kd.R_far (p := ⟨gb139, 1, none⟩) (Kd.R_far (p := ⟨gb139, 0, none⟩) (Kd.R_types HO_112001.out BK139.out (by decide)) (fun _ hk => hk.2) (.int .u8 t135)) (fun _ hk => hk.2) (.int .i64 0)) (fun _ hk => hk.2) (.int .i64 0)) (fun _ h_ => h_.1))) (by decide)) hk (fun _ h => h.2)) (fun _ h => h.1)); have n1_ := Aside0.mk (Kd.R_mono (Kd.R_keep (IsS65.apart (show IsS65 w _ gb102 l0 t136 t137 t138 from by repeat (first | (with_reducible first | exact HI102.out | apply IsS65.alloc | apply IsS65.drewN | apply IsS65.drew | apply IsS65.set_1 | apply IsS65.set_2 | apply IsS65.set_3 | refine IsS65.far ?_ NB102_101.out _ | refine IsS65.far ?_ NB102_111.out _ | refine IsS65.far ?_ NB102_139.out _) | exact HI102.out)) (by (with_reducible repeat (first | apply Kd.R_alloc | apply Kd.R_drewN | apply Kd.R_drew)); exact (Kd.R_mono (Kd.R_far (p := ⟨gb139, 2, none⟩) (Kd.R_far (p := ⟨gb139, 1, none⟩) (Kd.R_far (p := ⟨gb139, 0, none⟩) (Kd.R_mono HO_112002.out (fun k_ hk => (⟨hk, hk.2⟩ : _ ∧ k_ ≠ gb139))) (fun _ hk => hk.2) (.int .u8 t135)) (fun _ hk => hk.2) (.int .i64 0)) (fun _ hk => hk.2) (.int .i64 0)) (fun _ h_ => h_.1))) (by decide)) hk (fun _ h => h.2)) (fun _ h => h.1)); have n2_ := Aside0.mk (KeepBut.blk hk (g' := gb101) (o := .cells #[.int .u8 0, .slice none 0 0, .slice none 0 0, .int .i64 0] 25 (0, 0)) (by (with_reducible repeat (first | refine blk_drewN ?_ _ | refine blk_drew ?_ | refine blk_alloc ?_ _)); refine blk_far ?_ NB101_139.out _; (with_reducible repeat (first | refine blk_drewN ?_ _ | refine blk_drew ?_ | refine blk_alloc ?_ _)); refine blk_far ?_ NB101_139.out _; (with_reducible repeat (first | refine blk_drewN ?_ _ | refine blk_drew ?_ | refine blk_alloc ?_ _)); refine blk_far ?_ NB101_139.out _; (with_reducible repeat (first | refine blk_drewN ?_ _ | refine blk_drew ?_ | refine blk_alloc ?_ _)); exact BK101.out) NB101_102.out (by simp)); have n3_ := Aside0.mk (KeepBut.blk hk (g' := gb111) (o := .cells #[.int .u8 t112, u112001, u112002, .int .i64 t116] 25 (0, 0)) (by (with_reducible repeat (first | refine blk_drewN ?_ _ | refine blk_drew ?_ | refine blk_alloc ?_ _)); refine blk_far ?_ NB111_139.out _; (with_reducible repeat (first | refine blk_drewN ?_ _ | refine blk_drew ?_ | refine blk_alloc ?_ _)); refine blk_far ?_ NB111_139.out _; (with_reducible repeat (first | refine blk_drewN ?_ _ | refine blk_drew ?_ | refine blk_alloc ?_ _)); refine blk_far ?_ NB111_139.out _; (with_reducible repeat (first | refine blk_drewN ?_ _ | refine blk_drew ?_ | refine blk_alloc ?_ _)); exact BK111.out) NB111_102.out (by simp)); have n4_ := Aside0.mk (KeepBut.blk hk (g' := gb139) (o := .cells #[.int .u8 t135, .int .i64 0, .int .i64 0] 41 (0, 0)) (by (with_reducible repeat (first | refine blk_drewN ?_ _ | refine blk_drew ?_ | refine blk_alloc ?_ _)); refine blk_put (cs := #[.int .u8 t135, .int .i64 0, .int .i64 0]) ?_ 2 _ rfl; (with_reducible repeat (first | refine blk_drewN ?_ _ | refine blk_drew ?_ | refine blk_alloc ?_ _)); refine blk_put (cs := #[.int .u8 t135, .int .i64 0, .int .i64 0]) ?_ 1 _ rfl; (with_reducible repeat (first | refine blk_drewN ?_ _ | refine blk_drew ?_ | refine blk_alloc ?_ _)); refine blk_put (cs := #[.int .u8 0, .int .i64 0, .int .i64 0]) ?_ 0 _ rfl; (with_reducible repeat (first | refine blk_drewN ?_ _ | refine blk_drew ?_ | refine blk_alloc ?_ _)); exact BK139.out) NB139_102.out (by simp)); have n5_ := Aside0.mk (hb); have n6_ := Aside0.mk (hi); clear HO_112001; clear HO_112002; clear BK101; clear BK111; clear BK139; clear HB; clear HI102; have HO_112001 := n0_; have HO_112002 := n1_; have BK101 := n2_; have BK111 := n3_; have BK139 := n4_; have HB := n5_; have HI102 := n6_; clear n0_ n1_ n2_ n3_ n4_ n5_ n6_; (try clear hb); (try clear hb2); (try clear hk); (try clear hi); have hnb52 := NB139_101.out; have hnc52 := NB101_139.out; have hnb53 := NB139_111.out; have hnc53 := NB111_139.out; have hnb54 := NB139_102.out; have hnc54 := NB102_139.out; have hcz55_0 : w51.cell? ⟨gb139, 0, none⟩ = some (.int .u8 t135) := (blk_cell BK139.out 0).trans rfl; have hcz55_1 : w51.cell? ⟨gb139, 1, none⟩ = some (.int .i64 0) := (blk_cell BK139.out 1).trans rfl; have hcz55_2 : w51.cell? ⟨gb139, 2, none⟩ = some (.int .i64 0) := (blk_cell BK139.out 2).trans rfl; have hfz55_0 := blk_frozen BK139.out 0; have hfz55_1 := blk_frozen BK139.out 1; have hfz55_2 := blk_frozen BK139.out 2))
           go_meet
           case rel => exact ⟨_, (t142), (t143), (t144), (t141), H', ⟨by have := HJ9.out; have := HK2.out; have := HJ35.out; first | omega | exact Nat.le_refl _⟩, ⟨by (with_reducible repeat (first | apply Kd.R_alloc | apply Kd.R_drewN | apply Kd.R_drew)); exact Kd.R_mono (Kd.R_far (p := ⟨gb139, 1, none⟩) (Kd.R_types HO_112001.out BK139.out (by decide)) (fun _ hk => hk.2) (.int .i64 t141)) (fun _ hk => trivial)⟩, ⟨by (with_reducible repeat (first | apply Kd.R_alloc | apply Kd.R_drewN | apply Kd.R_drew)); exact Kd.R_mono (Kd.R_far (p := ⟨gb139, 1, none⟩) (Kd.R_mono HO_112002.out (fun k_ hk => (⟨hk, hk.2⟩ : _ ∧ k_ ≠ gb139))) (fun _ hk => hk.2) (.int .i64 t141)) (fun _ hk => hk.1.2)⟩, ⟨by (with_reducible repeat (first | refine blk_drewN ?_ _ | refine blk_drew ?_ | refine blk_alloc ?_ _)); refine blk_far ?_ NB101_139.out _; (with_reducible repeat (first | refine blk_drewN ?_ _ | refine blk_drew ?_ | refine blk_alloc ?_ _)); exact BK101.out⟩, ⟨by (with_reducible repeat (first | refine blk_drewN ?_ _ | refine blk_drew ?_ | refine blk_alloc ?_ _)); refine blk_far ?_ NB111_139.out _; (with_reducible repeat (first | refine blk_drewN ?_ _ | refine blk_drew ?_ | refine blk_alloc ?_ _)); exact BK111.out⟩, ⟨by (with_reducible repeat (first | refine blk_drewN ?_ _ | refine blk_drew ?_ | refine blk_alloc ?_ _)); refine blk_put (cs := #[.int .u8 t135, .int .i64 0, .int .i64 0]) ?_ 1 _ rfl; (with_reducible repeat (first | refine blk_drewN ?_ _ | refine blk_drew ?_ | refine blk_alloc ?_ _)); exact BK139.out⟩, ⟨by repeat (first | (with_reducible first | exact HI102.out | apply IsS65.alloc | apply IsS65.drewN | apply IsS65.drew | apply IsS65.set_1 | apply IsS65.set_2 | apply IsS65.set_3 | refine IsS65.far ?_ NB102_101.out _ | refine IsS65.far ?_ NB102_111.out _ | refine IsS65.far ?_ NB102_139.out _) | exact HI102.out)⟩, ⟨by repeat (first | (with_reducible first | exact HB.out | apply below_alloc | apply pw_below_drewN | apply below_drew1 | refine below_set ?_ (IsS65.ge HI102.out) | refine below_set ?_ GE101.out | refine below_set ?_ GE111.out | refine below_set ?_ GE139.out) | exact HB.out)⟩⟩
         case rest =>
          clear HC42
          try clear c1
          try clear c2
          try clear c2b0
          try clear c2b1
          try clear p2
          try clear c3
          try clear c4
          try clear c5
          try clear p6
          try clear c7
          try clear c17
          try clear c18
          try clear c20
          try clear c23
          try clear c23b0
          try clear c24
          try clear c24b0
          try clear c24b1
          try clear c26
          try clear c37
          try clear c37b0
          try clear c39
          try clear c45
          try clear c46
          try clear c47
          try clear c49
          try clear c49b0
          try clear c49b1
          try clear c52
          try clear c53
          try clear c54
          try clear hcz19_0
          try clear hcz19_1
          try clear hcz19_2
          try clear hcz19_3
          try clear hcz21_0
          try clear hcz21_1
          try clear hcz21_2
          try clear hcz21_3
          try clear hcz27_0
          try clear hcz27_1
          try clear hcz27_2
          try clear hcz27_3
          try clear hcz33_0
          try clear hcz33_1
          try clear hcz33_2
          try clear hcz33_3
          try clear hcz38_0
          try clear hcz38_1
          try clear hcz38_2
          try clear hcz38_3
          try clear hcz48_0
          try clear hcz48_1
          try clear hcz48_2
          try clear hcz4_0
          try clear hcz4_1
          try clear hcz4_2
          try clear hcz4_3
          try clear hcz55_0
          try clear hcz55_1
          try clear hcz55_2
          try clear hfz19_0
          try clear hfz19_1
          try clear hfz19_2
          try clear hfz19_3
          try clear hfz21_0
          try clear hfz21_1
          try clear hfz21_2
          try clear hfz21_3
          try clear hfz27_1
          try clear hfz27_2
          try clear hfz27_3
          try clear hfz33_1
          try clear hfz33_2
          try clear hfz33_3
          try clear hfz38_1
          try clear hfz38_2
          try clear hfz38_3
          try clear hfz48_0
          try clear hfz48_1
          try clear hfz48_2
          try clear hfz4_0
          try clear hfz4_1
          try clear hfz4_2
          try clear hfz4_3
          try clear hfz55_0
          try clear hfz55_1
          try clear hfz55_2
          try clear p2
          try clear p6
          obtain ⟨kq, x103001_41, x103002_41, x103003_41, x140001_41, HA, HJ41, HO_112001, HO_112002, BK101, BK111, BK139, HI102, HB⟩ := hcut
          cases kq with
          | zero => exact absurd HA.out (by simp [code_Decode.j4])
          | succ kj41 =>
           have H := HA.out
           clear HA
           simp only [code_Decode.j4] at H
           replace H := Option.bind_eq_some_iff.mp H
           obtain ⟨t145, A560, H⟩ := H
           replace H : (if (Go.bits .and .u8 t145 2) = 0 then (if x112002_2.length < 5864062014805 then (code_Decode.l1 kj41 l0 (wrap64 (x9_2 - 1)) l0 x103001_41 x103002_41 x103003_41 t112 x112001_9 (x112002_2 ++ [(⟨t135, x140001_41, 0⟩ : S41)]) t116) else (none)) else ((code_source_number.f kj41 l0 x103001_41 x103002_41 x103003_41 2147483647).bind fun bt149 => (if x112002_2.length < 5864062014805 then (code_Decode.l1 kj41 l0 (wrap64 (x9_2 - 1)) l0 bt149.2.1 bt149.2.2.1 bt149.2.2.2 t112 x112001_9 (x112002_2 ++ [(⟨t135, x140001_41, bt149.1⟩ : S41)]) t116) else (none)))) = some (r1, r2, r3, r4, r5, r6) := H
           have A56 := Aside0.mk A560
           clear A560
           by_cases c57 : (Go.bits .and .u8 t145 2) = 0
           ·rw [if_pos c57] at H
            have c57b0 : ((Go.bits .and .u8 t145 2) == 0) = true := beq_iff_eq.mpr c57
            have c57b1 : ((Go.bits .and .u8 t145 2) != 0) = false := bne_eq_false_iff_eq.mpr c57
            clear c57
            by_cases c58 : x112002_2.length < 5864062014805
            ·rw [if_pos c58] at H
             have LMc58 := Aside0.mk c58
             clear c58
             obtain ⟨y146, hy146⟩ : ∃ y_ : List (S41), y_ = (x112002_2 ++ [(⟨t135, x140001_41, 0⟩ : S41)]) := ⟨_, rfl⟩
             replace H : (code_Decode.l1 kj41 l0 (wrap64 (x9_2 - 1)) l0 x103001_41 x103002_41 x103003_41 t112 x112001_9 y146 t116) = some (r1, r2, r3, r4, r5, r6) := by first | (rw [hy146]; with_reducible exact H) | (have H2_ := (Option.bind_some _ _).symm.trans H; rw [hy146]; with_reducible exact H2_) | (have H2_ := (Option.bind_some _ _).symm.trans H; with_reducible exact H2_) | with_reducible exact H | (rw [hy146]; exact H) | exact H
             have Ny146 := Aside0.mk hy146
             clear hy146
             have H' := Aside0.mk H
             clear H
             have hnb59 := NB139_101.out
             have hnc59 := NB101_139.out
             have hnb60 := NB139_111.out
             have hnc60 := NB111_139.out
             have hnb61 := NB139_102.out
             have hnc61 := NB102_139.out
             have hcz62_0 : wc.cell? ⟨gb139, 0, none⟩ = some (.int .u8 t135) := (blk_cell BK139.out 0).trans rfl
             have hcz62_1 : wc.cell? ⟨gb139, 1, none⟩ = some (.int .i64 x140001_41) := (blk_cell BK139.out 1).trans rfl
             have hcz62_2 : wc.cell? ⟨gb139, 2, none⟩ = some (.int .i64 0) := (blk_cell BK139.out 2).trans rfl
             have hfz62_0 := blk_frozen BK139.out 0
             have hfz62_1 := blk_frozen BK139.out 1
             have hfz62_2 := blk_frozen BK139.out 2
             go_wp2_with (first | ((with_reducible refine gate_callee (f := 49) rfl ?_); refine goesL_ (some 78) rfl rfl Try.func49 (by kernel_rfl) rfl #[.int .u8 t135] rfl (by (try simp only [List.map_toArray, List.map_cons, List.map_nil]); first | done | rfl | (simp only [List.length_drop, List.length_take]; rfl)) ?_; (with_reducible refine (code_of.calls kj41 t135 t145 _ A56.out).mono ?_); rintro e w' ⟨rfl, ⟨nd, rfl⟩⟩; refine ⟨_, rfl, ?_⟩; (try (rw [drewN_self wc]; generalize hq_ : World.drewN wc _ = wc; have n0_ : Aside0 (Kd.R Kd.string 9 wc w.heap.size (fun _ => True) u112001 x112001_9) := ⟨by rw [← hq_]; exact (kr HO_112001)⟩; have n1_ : Aside0 (Kd.R k41 41 wc w.heap.size (fun k_ => k_ ≠ gb139) u112002 x112002_2) := ⟨by rw [← hq_]; exact (kr HO_112002)⟩; have n2_ : Aside0 (wc.heap[gb101]? = some (.cells #[.int .u8 0, .slice none 0 0, .slice none 0 0, .int .i64 0] 25 (0, 0))) := ⟨by rw [← hq_]; exact (bk BK101)⟩; have n3_ : Aside0 (wc.heap[gb111]? = some (.cells #[.int .u8 t112, u112001, u112002, .int .i64 t116] 25 (0, 0))) := ⟨by rw [← hq_]; exact (bk BK111)⟩; have n4_ : Aside0 (wc.heap[gb139]? = some (.cells #[.int .u8 t135, .int .i64 x140001_41, .int .i64 0] 41 (0, 0))) := ⟨by rw [← hq_]; exact (bk BK139)⟩; have n5_ : Aside0 (IsS65 w wc gb102 l0 x103001_41 x103002_41 x103003_41) := ⟨by rw [← hq_]; exact (by repeat (first | (with_reducible first | exact HI102.out | apply IsS65.alloc | apply IsS65.drewN | apply IsS65.drew | apply IsS65.set_1 | apply IsS65.set_2 | apply IsS65.set_3 | refine IsS65.far ?_ NB102_101.out _ | refine IsS65.far ?_ NB102_111.out _ | refine IsS65.far ?_ NB102_139.out _) | exact HI102.out))⟩; have n6_ : Aside0 (Below w.heap.size w wc) := ⟨by rw [← hq_]; exact (by repeat (first | (with_reducible first | exact HB.out | apply below_alloc | apply pw_below_drewN | apply below_drew1 | refine below_set ?_ (IsS65.ge HI102.out) | refine below_set ?_ GE101.out | refine below_set ?_ GE111.out | refine below_set ?_ GE139.out) | exact HB.out))⟩; clear HO_112001 HO_112002 BK101 BK111 BK139 HI102 HB hq_; have HO_112001 := n0_; have HO_112002 := n1_; have BK101 := n2_; have BK111 := n3_; have BK139 := n4_; have HI102 := n5_; have HB := n6_; clear n0_ n1_ n2_ n3_ n4_ n5_ n6_; have hcy1 : wc.cell? ⟨gb101, 0, none⟩ = some (.int .u8 0) := (blk_cell BK101.out 0).trans rfl; have hfy1 := blk_frozen BK101.out 0; have hcy2 : wc.cell? ⟨gb101, 1, none⟩ = some (.slice none 0 0) := (blk_cell BK101.out 1).trans rfl; have hfy2 := blk_frozen BK101.out 1; have hcy3 : wc.cell? ⟨gb101, 2, none⟩ = some (.slice none 0 0) := (blk_cell BK101.out 2).trans rfl; have hfy3 := blk_frozen BK101.out 2; have hcy4 : wc.cell? ⟨gb101, 3, none⟩ = some (.int .i64 0) := (blk_cell BK101.out 3).trans rfl; have hfy4 := blk_frozen BK101.out 3; have hcy5 : wc.cell? ⟨gb111, 0, none⟩ = some (.int .u8 t112) := (blk_cell BK111.out 0).trans rfl; have hfy5 := blk_frozen BK111.out 0; have hcy6 : wc.cell? ⟨gb111, 1, none⟩ = some (u112001) := (blk_cell BK111.out 1).trans rfl; have hfy6 := blk_frozen BK111.out 1; have hcy7 : wc.cell? ⟨gb111, 2, none⟩ = some (u112002) := (blk_cell BK111.out 2).trans rfl; have hfy7 := blk_frozen BK111.out 2; have hcy8 : wc.cell? ⟨gb111, 3, none⟩ = some (.int .i64 t116) := (blk_cell BK111.out 3).trans rfl; have hfy8 := blk_frozen BK111.out 3; have hcy9 : wc.cell? ⟨gb139, 0, none⟩ = some (.int .u8 t135) := (blk_cell BK139.out 0).trans rfl; have hfy9 := blk_frozen BK139.out 0; have hcy10 : wc.cell? ⟨gb139, 1, none⟩ = some (.int .i64 x140001_41) := (blk_cell BK139.out 1).trans rfl; have hfy10 := blk_frozen BK139.out 1; have hcy11 : wc.cell? ⟨gb139, 2, none⟩ = some (.int .i64 0) := (blk_cell BK139.out 2).trans rfl; have hfy11 := blk_frozen BK139.out 2)); have hnb63 := NB111_101.out; have hnc63 := NB101_111.out; have hnb64 := NB111_102.out; have hnc64 := NB102_111.out; have hcz65_0 : wc.cell? ⟨gb111, 0, none⟩ = some (.int .u8 t112) := (blk_cell BK111.out 0).trans rfl; have hcz65_1 : wc.cell? ⟨gb111, 1, none⟩ = some (u112001) := (blk_cell BK111.out 1).trans rfl; have hcz65_2 : wc.cell? ⟨gb111, 2, none⟩ = some (u112002) := (blk_cell BK111.out 2).trans rfl; have hcz65_3 : wc.cell? ⟨gb111, 3, none⟩ = some (.int .i64 t116) := (blk_cell BK111.out 3).trans rfl; have hfz65_0 := blk_frozen BK111.out 0; have hfz65_1 := blk_frozen BK111.out 1; have hfz65_2 := blk_frozen BK111.out 2; have hfz65_3 := blk_frozen BK111.out 3) | ((with_reducible refine gate_builtin (b := .append) (xs := #[.tmp 85, .tmp 87]) rfl ?_); at_builtin; refine Kd.R_append k41 (w0 := w) w.heap.size rfl (.tmp 85) (.tmp 87) 23 41 (.agg #[(.int .u8 0), (.int .i64 0), (.int .i64 0)]) 24 rfl Try.underlying23 info41 rfl (by decide) (by omega) u112002 x112002_2 (⟨t135, x140001_41, 0⟩ : S41) [.int .u8 t135, .int .i64 x140001_41, .int .i64 0] (fun k_ => k_ ≠ gb139) (fun _ => False) rfl rfl ?aP (fun _ hk => hk.elim) ?aF ?aO ?aB ?aS ?aL ?_; (case aP => exact k41_mkM _ _ _ (⟨t135, x140001_41, 0⟩ : S41)); (case aB => exact (by repeat (first | (with_reducible first | exact HB.out | apply below_alloc | apply pw_below_drewN | apply below_drew1 | refine below_set ?_ (IsS65.ge HI102.out) | refine below_set ?_ GE101.out | refine below_set ?_ GE111.out | refine below_set ?_ GE139.out) | exact HB.out))); (case aF => exact (fun k_ hk => Kd.freshB (g := gb139) (o := .cells #[.int .u8 t135, .int .i64 x140001_41, .int .i64 0] 41 (0, 0)) (bk BK139) k_ hk)); (case aO => exact (kr HO_112002)); (case aS => exact (below_size (by repeat (first | (with_reducible first | exact HB.out | apply below_alloc | apply pw_below_drewN | apply below_drew1 | refine below_set ?_ (IsS65.ge HI102.out) | refine below_set ?_ GE101.out | refine below_set ?_ GE111.out | refine below_set ?_ GE139.out) | exact HB.out)))); (case aL => have := LMc58.out; omega); intro v147 w66 ho hb hg hat; rw [← Ny146.out] at ho; have n0_ := Aside0.mk (Kd.R_over' (kr HO_112001) (Kd.R_typed (kr HO_112002)) (by decide) hg); have n1_ := Aside0.mk (blk_grown (g := gb101) (o := .cells #[.int .u8 0, .slice none 0 0, .slice none 0 0, .int .i64 0] 25 (0, 0)) (bk BK101) hg (Kd.R_ne HO_112002.out BK101.out (by decide))); have n2_ := Aside0.mk (blk_grown (g := gb111) (o := .cells #[.int .u8 t112, u112001, u112002, .int .i64 t116] 25 (0, 0)) (bk BK111) hg (Kd.R_ne HO_112002.out BK111.out (by decide))); have n3_ := Aside0.mk (blk_grown (g := gb139) (o := .cells #[.int .u8 t135, .int .i64 x140001_41, .int .i64 0] 41 (0, 0)) (bk BK139) hg (Kd.R_away HO_112002.out (fun _ hk => hk))); have n4_ := Aside0.mk (IsS65.grown (code_Decode.like65 HI102.out (by repeat (first | (with_reducible first | exact HI102.out | apply IsS65.alloc | apply IsS65.drewN | apply IsS65.drew | apply IsS65.set_1 | apply IsS65.set_2 | apply IsS65.set_3 | refine IsS65.far ?_ NB102_101.out _ | refine IsS65.far ?_ NB102_111.out _ | refine IsS65.far ?_ NB102_139.out _) | exact HI102.out))) hg (IsS65.own_ne HI102.out HO_112002.out (by decide))); have n5_ := Aside0.mk (hb); have n6_ := Aside0.mk (ho); clear HO_112001; clear BK101; clear BK111; clear BK139; clear HI102; clear HB; clear HO_112002; have HO_112001 := n0_; have BK101 := n1_; have BK111 := n2_; have BK139 := n3_; have HI102 := n4_; have HB := n5_; have HO148 := n6_; clear n0_ n1_ n2_ n3_ n4_ n5_ n6_; clear ho hb hg hat; obtain ⟨Ao67, co67, eo67⟩ := Kd.R_slice HO148.out; subst eo67; have hcz68_0 : w66.cell? ⟨gb111, 0, none⟩ = some (.int .u8 t112) := (blk_cell BK111.out 0).trans rfl; have hcz68_1 : w66.cell? ⟨gb111, 1, none⟩ = some (u112001) := (blk_cell BK111.out 1).trans rfl; have hcz68_2 : w66.cell? ⟨gb111, 2, none⟩ = some (u112002) := (blk_cell BK111.out 2).trans rfl; have hcz68_3 : w66.cell? ⟨gb111, 3, none⟩ = some (.int .i64 t116) := (blk_cell BK111.out 3).trans rfl; have hfz68_0 := blk_frozen BK111.out 0; have hfz68_1 := blk_frozen BK111.out 1; have hfz68_2 := blk_frozen BK111.out 2; have hfz68_3 := blk_frozen BK111.out 3))
             go_roundg kj41
             case measure => have := HJ9.out; have := HK2.out; have := HJ35.out; have := HJ41.out; omega
             case rel => exact ⟨(wrap64 (x9_2 - 1)), (x103001_41), (x103002_41), (x103003_41), (y146), (.slice Ao67 y146.length co67), (by first | rfl | (simp; done) | (simp [*]; done)), H', ⟨by have := HJ9.out; have := HK2.out; have := HJ35.out; have := HJ41.out; omega⟩, ⟨by (with_reducible repeat (first | apply Kd.R_alloc | apply Kd.R_drewN | apply Kd.R_drew)); exact Kd.R_mono (Kd.R_far (p := ⟨gb111, 2, none⟩) (Kd.R_types HO_112001.out BK111.out (by decide)) (fun _ hk => hk.2) (.slice Ao67 y146.length co67)) (fun _ hk => trivial)⟩, ⟨by (with_reducible repeat (first | apply Kd.R_alloc | apply Kd.R_drewN | apply Kd.R_drew)); exact Kd.R_mono (Kd.R_far (p := ⟨gb111, 2, none⟩) (Kd.R_types HO148.out BK111.out (by decide)) (fun _ hk => hk.2) (.slice Ao67 y146.length co67)) (fun _ hk => trivial)⟩, ⟨by (with_reducible repeat (first | refine blk_drewN ?_ _ | refine blk_drew ?_ | refine blk_alloc ?_ _)); refine blk_far ?_ NB101_111.out _; (with_reducible repeat (first | refine blk_drewN ?_ _ | refine blk_drew ?_ | refine blk_alloc ?_ _)); exact BK101.out⟩, ⟨by (with_reducible repeat (first | refine blk_drewN ?_ _ | refine blk_drew ?_ | refine blk_alloc ?_ _)); refine blk_put (cs := #[.int .u8 t112, u112001, u112002, .int .i64 t116]) ?_ 2 _ rfl; (with_reducible repeat (first | refine blk_drewN ?_ _ | refine blk_drew ?_ | refine blk_alloc ?_ _)); exact BK111.out⟩, ⟨by repeat (first | (with_reducible first | exact HI102.out | apply IsS65.alloc | apply IsS65.drewN | apply IsS65.drew | apply IsS65.set_1 | apply IsS65.set_2 | apply IsS65.set_3 | refine IsS65.far ?_ NB102_101.out _ | refine IsS65.far ?_ NB102_111.out _ | refine IsS65.far ?_ NB102_139.out _) | exact HI102.out)⟩, ⟨by repeat (first | (with_reducible first | exact HB.out | apply below_alloc | apply pw_below_drewN | apply below_drew1 | refine below_set ?_ (IsS65.ge HI102.out) | refine below_set ?_ GE101.out | refine below_set ?_ GE111.out | refine below_set ?_ GE139.out) | exact HB.out)⟩⟩
            ·rw [if_neg c58] at H
             exact absurd H (by simp)
           ·rw [if_neg c57] at H
            have c57b0 : ((Go.bits .and .u8 t145 2) == 0) = false := beq_eq_false_iff_ne.mpr c57
            have c57b1 : ((Go.bits .and .u8 t145 2) != 0) = true := bne_iff_ne.mpr c57
            replace H := Option.bind_eq_some_iff.mp H
            obtain ⟨⟨t149, t150, t151, t152⟩, A690, H⟩ := H
            replace H : (if x112002_2.length < 5864062014805 then (code_Decode.l1 kj41 l0 (wrap64 (x9_2 - 1)) l0 t150 t151 t152 t112 x112001_9 (x112002_2 ++ [(⟨t135, x140001_41, t149⟩ : S41)]) t116) else (none)) = some (r1, r2, r3, r4, r5, r6) := H
            have A69 := Aside0.mk A690
            clear A690
            by_cases c70 : x112002_2.length < 5864062014805
            ·rw [if_pos c70] at H
             have LMc70 := Aside0.mk c70
             clear c70
             obtain ⟨y153, hy153⟩ : ∃ y_ : List (S41), y_ = (x112002_2 ++ [(⟨t135, x140001_41, t149⟩ : S41)]) := ⟨_, rfl⟩
             replace H : (code_Decode.l1 kj41 l0 (wrap64 (x9_2 - 1)) l0 t150 t151 t152 t112 x112001_9 y153 t116) = some (r1, r2, r3, r4, r5, r6) := by first | (rw [hy153]; with_reducible exact H) | (have H2_ := (Option.bind_some _ _).symm.trans H; rw [hy153]; with_reducible exact H2_) | (have H2_ := (Option.bind_some _ _).symm.trans H; with_reducible exact H2_) | with_reducible exact H | (rw [hy153]; exact H) | exact H
             have Ny153 := Aside0.mk hy153
             clear hy153
             have H' := Aside0.mk H
             clear H
             have hnb71 := NB139_101.out
             have hnc71 := NB101_139.out
             have hnb72 := NB139_111.out
             have hnc72 := NB111_139.out
             have hnb73 := NB139_102.out
             have hnc73 := NB102_139.out
             have hcz74_0 : wc.cell? ⟨gb139, 0, none⟩ = some (.int .u8 t135) := (blk_cell BK139.out 0).trans rfl
             have hcz74_1 : wc.cell? ⟨gb139, 1, none⟩ = some (.int .i64 x140001_41) := (blk_cell BK139.out 1).trans rfl
             have hcz74_2 : wc.cell? ⟨gb139, 2, none⟩ = some (.int .i64 0) := (blk_cell BK139.out 2).trans rfl
             have hfz74_0 := blk_frozen BK139.out 0
             have hfz74_1 := blk_frozen BK139.out 1
             have hfz74_2 := blk_frozen BK139.out 2
             go_wp2_with (first | ((with_reducible refine gate_callee (f := 49) rfl ?_); refine goesL_ (some 78) rfl rfl Try.func49 (by kernel_rfl) rfl #[.int .u8 t135] rfl (by (try simp only [List.map_toArray, List.map_cons, List.map_nil]); first | done | rfl | (simp only [List.length_drop, List.length_take]; rfl)) ?_; (with_reducible refine (code_of.calls kj41 t135 t145 _ A56.out).mono ?_); rintro e w' ⟨rfl, ⟨nd, rfl⟩⟩; refine ⟨_, rfl, ?_⟩; (try (rw [drewN_self wc]; generalize hq_ : World.drewN wc _ = wc; have n0_ : Aside0 (Kd.R Kd.string 9 wc w.heap.size (fun _ => True) u112001 x112001_9) := ⟨by rw [← hq_]; exact (kr HO_112001)⟩; have n1_ : Aside0 (Kd.R k41 41 wc w.heap.size (fun k_ => k_ ≠ gb139) u112002 x112002_2) := ⟨by rw [← hq_]; exact (kr HO_112002)⟩; have n2_ : Aside0 (wc.heap[gb101]? = some (.cells #[.int .u8 0, .slice none 0 0, .slice none 0 0, .int .i64 0] 25 (0, 0))) := ⟨by rw [← hq_]; exact (bk BK101)⟩; have n3_ : Aside0 (wc.heap[gb111]? = some (.cells #[.int .u8 t112, u112001, u112002, .int .i64 t116] 25 (0, 0))) := ⟨by rw [← hq_]; exact (bk BK111)⟩; have n4_ : Aside0 (wc.heap[gb139]? = some (.cells #[.int .u8 t135, .int .i64 x140001_41, .int .i64 0] 41 (0, 0))) := ⟨by rw [← hq_]; exact (bk BK139)⟩; have n5_ : Aside0 (IsS65 w wc gb102 l0 x103001_41 x103002_41 x103003_41) := ⟨by rw [← hq_]; exact (by repeat (first | (with_reducible first | exact HI102.out | apply IsS65.alloc | apply IsS65.drewN | apply IsS65.drew | apply IsS65.set_1 | apply IsS65.set_2 | apply IsS65.set_3 | refine IsS65.far ?_ NB102_101.out _ | refine IsS65.far ?_ NB102_111.out _ | refine IsS65.far ?_ NB102_139.out _) | exact HI102.out))⟩; have n6_ : Aside0 (Below w.heap.size w wc) := ⟨by rw [← hq_]; exact (by repeat (first | (with_reducible first | exact HB.out | apply below_alloc | apply pw_below_drewN | apply below_drew1 | refine below_set ?_ (IsS65.ge HI102.out) | refine below_set ?_ GE101.out | refine below_set ?_ GE111.out | refine below_set ?_ GE139.out) | exact HB.out))⟩; clear HO_112001 HO_112002 BK101 BK111 BK139 HI102 HB hq_; have HO_112001 := n0_; have HO_112002 := n1_; have BK101 := n2_; have BK111 := n3_; have BK139 := n4_; have HI102 := n5_; have HB := n6_; clear n0_ n1_ n2_ n3_ n4_ n5_ n6_; have hcy12 : wc.cell? ⟨gb101, 0, none⟩ = some (.int .u8 0) := (blk_cell BK101.out 0).trans rfl; have hfy12 := blk_frozen BK101.out 0; have hcy13 : wc.cell? ⟨gb101, 1, none⟩ = some (.slice none 0 0) := (blk_cell BK101.out 1).trans rfl; have hfy13 := blk_frozen BK101.out 1; have hcy14 : wc.cell? ⟨gb101, 2, none⟩ = some (.slice none 0 0) := (blk_cell BK101.out 2).trans rfl; have hfy14 := blk_frozen BK101.out 2; have hcy15 : wc.cell? ⟨gb101, 3, none⟩ = some (.int .i64 0) := (blk_cell BK101.out 3).trans rfl; have hfy15 := blk_frozen BK101.out 3; have hcy16 : wc.cell? ⟨gb111, 0, none⟩ = some (.int .u8 t112) := (blk_cell BK111.out 0).trans rfl; have hfy16 := blk_frozen BK111.out 0; have hcy17 : wc.cell? ⟨gb111, 1, none⟩ = some (u112001) := (blk_cell BK111.out 1).trans rfl; have hfy17 := blk_frozen BK111.out 1; have hcy18 : wc.cell? ⟨gb111, 2, none⟩ = some (u112002) := (blk_cell BK111.out 2).trans rfl; have hfy18 := blk_frozen BK111.out 2; have hcy19 : wc.cell? ⟨gb111, 3, none⟩ = some (.int .i64 t116) := (blk_cell BK111.out 3).trans rfl; have hfy19 := blk_frozen BK111.out 3; have hcy20 : wc.cell? ⟨gb139, 0, none⟩ = some (.int .u8 t135) := (blk_cell BK139.out 0).trans rfl; have hfy20 := blk_frozen BK139.out 0; have hcy21 : wc.cell? ⟨gb139, 1, none⟩ = some (.int .i64 x140001_41) := (blk_cell BK139.out 1).trans rfl; have hfy21 := blk_frozen BK139.out 1; have hcy22 : wc.cell? ⟨gb139, 2, none⟩ = some (.int .i64 0) := (blk_cell BK139.out 2).trans rfl; have hfy22 := blk_frozen BK139.out 2))) | ((with_reducible refine gate_callee (f := 46) rfl ?_); refine goesL_ (some 82) rfl rfl Try.func46 (by kernel_rfl) rfl #[.pointer (some ⟨gb102, 0, none⟩), .int .i64 2147483647] rfl (by (try simp only [List.map_toArray, List.map_cons, List.map_nil]); first | done | rfl | (simp only [List.length_drop, List.length_take]; rfl)) ?_; (with_reducible refine (code_source_number.calls kj41 gb102 l0 x103001_41 x103002_41 x103003_41 2147483647 t149 t150 t151 t152 w _ ?side1 ?side2 A69.out).mono ?_); (case side1 => repeat (first | (with_reducible first | exact HI102.out | apply IsS65.alloc | apply IsS65.drewN | apply IsS65.drew | apply IsS65.set_1 | apply IsS65.set_2 | apply IsS65.set_3 | refine IsS65.far ?_ NB102_101.out _ | refine IsS65.far ?_ NB102_111.out _ | refine IsS65.far ?_ NB102_139.out _) | exact HI102.out)); (case side2 => repeat (first | (with_reducible first | exact HB.out | apply below_alloc | apply pw_below_drewN | apply below_drew1 | refine below_set ?_ (IsS65.ge HI102.out) | refine below_set ?_ GE101.out | refine below_set ?_ GE111.out | refine below_set ?_ GE139.out) | exact HB.out)); rintro e w75 ⟨rfl, hi, hb, hk⟩; refine ⟨_, rfl, ?_⟩; have n0_ := Aside0.mk (Kd.R_mono (Kd.R_keep (IsS65.apart (show IsS65 w _ gb102 l0 x103001_41 x103002_41 x103003_41 from by repeat (first | (with_reducible first | exact HI102.out | apply IsS65.alloc | apply IsS65.drewN | apply IsS65.drew | apply IsS65.set_1 | apply IsS65.set_2 | apply IsS65.set_3 | refine IsS65.far ?_ NB102_101.out _ | refine IsS65.far ?_ NB102_111.out _ | refine IsS65.far ?_ NB102_139.out _) | exact HI102.out)) (kr HO_112001) (by decide)) hk (fun _ h => h.2)) (fun _ h => h.1)); have n1_ := Aside0.mk (Kd.R_mono (Kd.R_keep (IsS65.apart (show IsS65 w _ gb102 l0 x103001_41 x103002_41 x103003_41 from by repeat (first | (with_reducible first | exact HI102.out | apply IsS65.alloc | apply IsS65.drewN | apply IsS65.drew | apply IsS65.set_1 | apply IsS65.set_2 | apply IsS65.set_3 | refine IsS65.far ?_ NB102_101.out _ | refine IsS65.far ?_ NB102_111.out _ | refine IsS65.far ?_ NB102_139.out _) | exact HI102.out)) (kr HO_112002) (by decide)) hk (fun _ h => h.2)) (fun _ h => h.1)); have n2_ := Aside0.mk (KeepBut.blk hk (g' := gb101) (o := .cells #[.int .u8 0, .slice none 0 0, .slice none 0 0, .int .i64 0] 25 (0, 0)) (bk BK101) NB101_102.out (by simp)); have n3_ := Aside0.mk (KeepBut.blk hk (g' := gb111) (o := .cells #[.int .u8 t112, u112001, u112002, .int .i64 t116] 25 (0, 0)) (bk BK111) NB111_102.out (by simp)); have n4_ := Aside0.mk (KeepBut.blk hk (g' := gb139) (o := .cells #[.int .u8 t135, .int .i64 x140001_41, .int .i64 0] 41 (0, 0)) (bk BK139) NB139_102.out (by simp)); have n5_ := Aside0.mk (hb); have n6_ := Aside0.mk (hi); clear HO_112001; clear HO_112002; clear BK101; clear BK111; clear BK139; clear HB; clear HI102; have HO_112001 := n0_; have HO_112002 := n1_; have BK101 := n2_; have BK111 := n3_; have BK139 := n4_; have HB := n5_; have HI102 := n6_; clear n0_ n1_ n2_ n3_ n4_ n5_ n6_; (try clear hb); (try clear hb2); (try clear hk); (try clear hi); have hcz76_0 : w75.cell? ⟨gb139, 0, none⟩ = some (.int .u8 t135) := (blk_cell BK139.out 0).trans rfl; have hcz76_1 : w75.cell? ⟨gb139, 1, none⟩ = some (.int .i64 x140001_41) := (blk_cell BK139.out 1).trans rfl; have hcz76_2 : w75.cell? ⟨gb139, 2, none⟩ = some (.int .i64 0) := (blk_cell BK139.out 2).trans rfl; have hfz76_0 := blk_frozen BK139.out 0; have hfz76_1 := blk_frozen BK139.out 1; have hfz76_2 := blk_frozen BK139.out 2; have hnb77 := NB111_101.out; have hnc77 := NB101_111.out; have hnb78 := NB111_102.out; have hnc78 := NB102_111.out; have hcz79_0 : w75.cell? ⟨gb111, 0, none⟩ = some (.int .u8 t112) := (blk_cell BK111.out 0).trans rfl; have hcz79_1 : w75.cell? ⟨gb111, 1, none⟩ = some (u112001) := (blk_cell BK111.out 1).trans rfl; have hcz79_2 : w75.cell? ⟨gb111, 2, none⟩ = some (u112002) := (blk_cell BK111.out 2).trans rfl; have hcz79_3 : w75.cell? ⟨gb111, 3, none⟩ = some (.int .i64 t116) := (blk_cell BK111.out 3).trans rfl; have hfz79_0 := blk_frozen BK111.out 0; have hfz79_1 := blk_frozen BK111.out 1; have hfz79_2 := blk_frozen BK111.out 2; have hfz79_3 := blk_frozen BK111.out 3) | ((with_reducible refine gate_builtin (b := .append) (xs := #[.tmp 85, .tmp 87]) rfl ?_); at_builtin; refine Kd.R_append k41 (w0 := w) w.heap.size rfl (.tmp 85) (.tmp 87) 23 41 (.agg #[(.int .u8 0), (.int .i64 0), (.int .i64 0)]) 24 rfl Try.underlying23 info41 rfl (by decide) (by omega) u112002 x112002_2 (⟨t135, x140001_41, t149⟩ : S41) [.int .u8 t135, .int .i64 x140001_41, .int .i64 t149] (fun k_ => k_ ≠ gb139) (fun _ => False) rfl (by first | (go_simp; done) | (go_simp; rfl)) ?aP (fun _ hk => hk.elim) ?aF ?aO ?aB ?aS ?aL ?_; (case aP => exact k41_mkM _ _ _ (⟨t135, x140001_41, t149⟩ : S41)); (case aB => exact (by repeat (first | (with_reducible first | exact HB.out | apply below_alloc | apply pw_below_drewN | apply below_drew1 | refine below_set ?_ (IsS65.ge HI102.out) | refine below_set ?_ GE101.out | refine below_set ?_ GE111.out | refine below_set ?_ GE139.out) | exact HB.out))); (case aF => exact (fun k_ hk => Kd.freshB (g := gb139) (o := .cells #[.int .u8 t135, .int .i64 x140001_41, .int .i64 t149] 41 (0, 0)) (by (with_reducible repeat (first | refine blk_drewN ?_ _ | refine blk_drew ?_ | refine blk_alloc ?_ _)); refine blk_put (cs := #[.int .u8 t135, .int .i64 x140001_41, .int .i64 0]) ?_ 2 _ rfl; (with_reducible repeat (first | refine blk_drewN ?_ _ | refine blk_drew ?_ | refine blk_alloc ?_ _)); exact BK139.out) k_ hk)); (case aO => exact (by (with_reducible repeat (first | apply Kd.R_alloc | apply Kd.R_drewN | apply Kd.R_drew)); exact Kd.R_mono (Kd.R_far (p := ⟨gb139, 2, none⟩) (Kd.R_mono HO_112002.out (fun k_ hk => (⟨hk, hk⟩ : _ ∧ k_ ≠ gb139))) (fun _ hk => hk.2) (.int .i64 t149)) (fun _ hk => hk.1))); (case aS => exact (below_size (by repeat (first | (with_reducible first | exact HB.out | apply below_alloc | apply pw_below_drewN | apply below_drew1 | refine below_set ?_ (IsS65.ge HI102.out) | refine below_set ?_ GE101.out | refine below_set ?_ GE111.out | refine below_set ?_ GE139.out) | exact HB.out)))); (case aL => have := LMc70.out; omega); intro v154 w80 ho hb hg hat; rw [← Ny153.out] at ho; have n0_ := Aside0.mk (Kd.R_over' (by (with_reducible repeat (first | apply Kd.R_alloc | apply Kd.R_drewN | apply Kd.R_drew)); exact (Kd.R_mono (Kd.R_far (p := ⟨gb139, 2, none⟩) (Kd.R_types HO_112001.out BK139.out (by decide)) (fun _ hk => hk.2) (.int .i64 t149)) (fun _ h_ => h_.1))) (Kd.R_typed (by (with_reducible repeat (first | apply Kd.R_alloc | apply Kd.R_drewN | apply Kd.R_drew)); exact (Kd.R_mono (Kd.R_far (p := ⟨gb139, 2, none⟩) (Kd.R_mono HO_112002.out (fun k_ hk => (⟨hk, hk⟩ : _ ∧ k_ ≠ gb139))) (fun _ hk => hk.2) (.int .i64 t149)) (fun _ h_ => h_.1)))) (by decide) hg); have n1_ := Aside0.mk (blk_grown (g := gb101) (o := .cells #[.int .u8 0, .slice none 0 0, .slice none 0 0, .int .i64 0] 25 (0, 0)) (by (with_reducible repeat (first | refine blk_drewN ?_ _ | refine blk_drew ?_ | refine blk_alloc ?_ _)); refine blk_far ?_ NB101_139.out _; (with_reducible repeat (first | refine blk_drewN ?_ _ | refine blk_drew ?_ | refine blk_alloc ?_ _)); exact BK101.out) hg (Kd.R_ne HO_112002.out BK101.out (by decide))); have n2_ := Aside0.mk (blk_grown (g := gb111) (o := .cells #[.int .u8 t112, u112001, u112002, .int .i64 t116] 25 (0, 0)) (by (with_reducible repeat (first | refine blk_drewN ?_ _ | refine blk_drew ?_ | refine blk_alloc ?_ _)); refine blk_far ?_ NB111_139.out _; (with_reducible repeat (first | refine blk_drewN ?_ _ | refine blk_drew ?_ | refine blk_alloc ?_ _)); exact BK111.out) hg (Kd.R_ne HO_112002.out BK111.out (by decide))); have n3_ := Aside0.mk (blk_grown (g := gb139) (o := .cells #[.int .u8 t135, .int .i64 x140001_41, .int .i64 t149] 41 (0, 0)) (by (with_reducible repeat (first | refine blk_drewN ?_ _ | refine blk_drew ?_ | refine blk_alloc ?_ _)); refine blk_put (cs := #[.int .u8 t135, .int .i64 x140001_41, .int .i64 0]) ?_ 2 _ rfl; (with_reducible repeat (first | refine blk_drewN ?_ _ | refine blk_drew ?_ | refine blk_alloc ?_ _)); exact BK139.out) hg (Kd.R_away HO_112002.out (fun _ hk => hk))); have n4_ := Aside0.mk (IsS65.grown (code_Decode.like65 HI102.out (by repeat (first | (with_reducible first | exact HI102.out | apply IsS65.alloc | apply IsS65.drewN | apply IsS65.drew | apply IsS65.set_1 | apply IsS65.set_2 | apply IsS65.set_3 | refine IsS65.far ?_ NB102_101.out _ | refine IsS65.far ?_ NB102_111.out _ | refine IsS65.far ?_ NB102_139.out _) | exact HI102.out))) hg (IsS65.own_ne HI102.out HO_112002.out (by decide))); have n5_ := Aside0.mk (hb); have n6_ := Aside0.mk (ho); clear HO_112001; clear BK101; clear BK111; clear BK139; clear HI102; clear HB; clear HO_112002; have HO_112001 := n0_; have BK101 := n1_; have BK111 := n2_; have BK139 := n3_; have HI102 := n4_; have HB := n5_; have HO155 := n6_; clear n0_ n1_ n2_ n3_ n4_ n5_ n6_; clear ho hb hg hat; obtain ⟨Ao81, co81, eo81⟩ := Kd.R_slice HO155.out; subst eo81; have hcz82_0 : w80.cell? ⟨gb111, 0, none⟩ = some (.int .u8 t112) := (blk_cell BK111.out 0).trans rfl; have hcz82_1 : w80.cell? ⟨gb111, 1, none⟩ = some (u112001) := (blk_cell BK111.out 1).trans rfl; have hcz82_2 : w80.cell? ⟨gb111, 2, none⟩ = some (u112002) := (blk_cell BK111.out 2).trans rfl; have hcz82_3 : w80.cell? ⟨gb111, 3, none⟩ = some (.int .i64 t116) := (blk_cell BK111.out 3).trans rfl; have hfz82_0 := blk_frozen BK111.out 0; have hfz82_1 := blk_frozen BK111.out 1; have hfz82_2 := blk_frozen BK111.out 2; have hfz82_3 := blk_frozen BK111.out 3))
             go_roundg kj41
             case measure => have := HJ9.out; have := HK2.out; have := HJ35.out; have := HJ41.out; omega
             case rel => exact ⟨(wrap64 (x9_2 - 1)), (t150), (t151), (t152), (y153), (.slice Ao81 y153.length co81), (by first | rfl | (simp; done) | (simp [*]; done)), H', ⟨by have := HJ9.out; have := HK2.out; have := HJ35.out; have := HJ41.out; omega⟩, ⟨by (with_reducible repeat (first | apply Kd.R_alloc | apply Kd.R_drewN | apply Kd.R_drew)); exact Kd.R_mono (Kd.R_far (p := ⟨gb111, 2, none⟩) (Kd.R_types HO_112001.out BK111.out (by decide)) (fun _ hk => hk.2) (.slice Ao81 y153.length co81)) (fun _ hk => trivial)⟩, ⟨by (with_reducible repeat (first | apply Kd.R_alloc | apply Kd.R_drewN | apply Kd.R_drew)); exact Kd.R_mono (Kd.R_far (p := ⟨gb111, 2, none⟩) (Kd.R_types HO155.out BK111.out (by decide)) (fun _ hk => hk.2) (.slice Ao81 y153.length co81)) (fun _ hk => trivial)⟩, ⟨by (with_reducible repeat (first | refine blk_drewN ?_ _ | refine blk_drew ?_ | refine blk_alloc ?_ _)); refine blk_far ?_ NB101_111.out _; (with_reducible repeat (first | refine blk_drewN ?_ _ | refine blk_drew ?_ | refine blk_alloc ?_ _)); exact BK101.out⟩, ⟨by (with_reducible repeat (first | refine blk_drewN ?_ _ | refine blk_drew ?_ | refine blk_alloc ?_ _)); refine blk_put (cs := #[.int .u8 t112, u112001, u112002, .int .i64 t116]) ?_ 2 _ rfl; (with_reducible repeat (first | refine blk_drewN ?_ _ | refine blk_drew ?_ | refine blk_alloc ?_ _)); exact BK111.out⟩, ⟨by repeat (first | (with_reducible first | exact HI102.out | apply IsS65.alloc | apply IsS65.drewN | apply IsS65.drew | apply IsS65.set_1 | apply IsS65.set_2 | apply IsS65.set_3 | refine IsS65.far ?_ NB102_101.out _ | refine IsS65.far ?_ NB102_111.out _ | refine IsS65.far ?_ NB102_139.out _) | exact HI102.out)⟩, ⟨by repeat (first | (with_reducible first | exact HB.out | apply below_alloc | apply pw_below_drewN | apply below_drew1 | refine below_set ?_ (IsS65.ge HI102.out) | refine below_set ?_ GE101.out | refine below_set ?_ GE111.out | refine below_set ?_ GE139.out) | exact HB.out)⟩⟩
            ·rw [if_neg c70] at H
             exact absurd H (by simp)
        ·replace c39 := Bool.eq_false_iff.mpr c39
         subst c39
         have H1 : (if x103001_2 < (l0.length : Int) then ((code_source_fail.f l0 x103001_2 x103002_2 x103003_2 210 x103001_2).bind fun bt156 => (if bt156.2.1 = 0 then (some (t112, x112001_9, x112002_2, t116, 0, 0)) else (some (0, ([] : List ByteArray), ([] : List (S41)), 0, bt156.2.2, bt156.2.1)))) else (if x103002_2 = 0 then (some (t112, x112001_9, x112002_2, t116, 0, 0)) else (some (0, ([] : List ByteArray), ([] : List (S41)), 0, x103003_2, x103002_2)))) = some (r1, r2, r3, r4, r5, r6) := by rw [if_neg (show ¬ (false = true) by decide)] at H; exact H
         clear H
         have H := H1
         clear H1
         by_cases c83 : x103001_2 < (l0.length : Int)
         ·rw [if_pos c83] at H
          have c83b0 : decide (x103001_2 < (l0.length : Int)) = true := decide_eq_true c83
          clear c83
          replace H := Option.bind_eq_some_iff.mp H
          obtain ⟨⟨t156, t157, t158⟩, A840, H⟩ := H
          replace H : (if t157 = 0 then (some (t112, x112001_9, x112002_2, t116, 0, 0)) else (some (0, ([] : List ByteArray), ([] : List (S41)), 0, t158, t157))) = some (r1, r2, r3, r4, r5, r6) := H
          have A84 := Aside0.mk A840
          clear A840
          by_cases c85 : t157 = 0
          ·rw [if_pos c85] at H
           have c85b0 : (t157 == 0) = true := beq_iff_eq.mpr c85
           have c85b1 : (t157 != 0) = false := bne_eq_false_iff_eq.mpr c85
           clear c85
           simp only [Option.some.injEq, Prod.mk.injEq] at H
           obtain ⟨rfl, rfl, rfl, rfl, rfl, rfl⟩ := H
           obtain ⟨ASz86_0, cSz86_0, HGz86, hgz86, ⟨HSz86_0, HTz86_0⟩⟩ := HI102.out
           have hcz86_0 := cellS65_0 HGz86
           have hcz86_1 := cellS65_1 HGz86
           have hcz86_2 := cellS65_2 HGz86
           have hcz86_3 := cellS65_3 HGz86
           have hfz86_1 := blk_frozen HGz86 1
           have hfz86_2 := blk_frozen HGz86 2
           have hfz86_3 := blk_frozen HGz86 3
           clear HGz86 hgz86
           go_wp2_with (first | ((with_reducible refine gate_callee (f := 50) rfl ?_); refine goesL_ (some 102) rfl rfl Try.func50 (by kernel_rfl) rfl #[.pointer (some ⟨gb102, 0, none⟩), .int .i64 210, .int .i64 x103001_2] rfl (by (try simp only [List.map_toArray, List.map_cons, List.map_nil]); first | done | rfl | (simp only [List.length_drop, List.length_take]; rfl)) ?_; (with_reducible refine (code_source_fail.calls gb102 l0 x103001_2 x103002_2 x103003_2 210 x103001_2 t156 t157 t158 w _ ?side1 ?side2 A84.out).mono ?_); (case side1 => repeat (first | (with_reducible first | exact HI102.out | apply IsS65.alloc | apply IsS65.drewN | apply IsS65.drew | apply IsS65.set_1 | apply IsS65.set_2 | apply IsS65.set_3 | refine IsS65.far ?_ NB102_101.out _ | refine IsS65.far ?_ NB102_111.out _) | exact HI102.out)); (case side2 => repeat (first | (with_reducible first | exact HB.out | apply below_alloc | apply pw_below_drewN | apply below_drew1 | refine below_set ?_ (IsS65.ge HI102.out) | refine below_set ?_ GE101.out | refine below_set ?_ GE111.out) | exact HB.out)); rintro e w87 ⟨rfl, hi, hb, hk⟩; refine ⟨_, rfl, ?_⟩; have n0_ := Aside0.mk (Kd.R_mono (Kd.R_keep (IsS65.apart (show IsS65 w _ gb102 l0 x103001_2 x103002_2 x103003_2 from by repeat (first | (with_reducible first | exact HI102.out | apply IsS65.alloc | apply IsS65.drewN | apply IsS65.drew | apply IsS65.set_1 | apply IsS65.set_2 | apply IsS65.set_3 | refine IsS65.far ?_ NB102_101.out _ | refine IsS65.far ?_ NB102_111.out _) | exact HI102.out)) (kr HO_112001) (by decide)) hk (fun _ h => h.2)) (fun _ h => h.1)); have n1_ := Aside0.mk (Kd.R_mono (Kd.R_keep (IsS65.apart (show IsS65 w _ gb102 l0 x103001_2 x103002_2 x103003_2 from by repeat (first | (with_reducible first | exact HI102.out | apply IsS65.alloc | apply IsS65.drewN | apply IsS65.drew | apply IsS65.set_1 | apply IsS65.set_2 | apply IsS65.set_3 | refine IsS65.far ?_ NB102_101.out _ | refine IsS65.far ?_ NB102_111.out _) | exact HI102.out)) (kr HO_112002) (by decide)) hk (fun _ h => h.2)) (fun _ h => h.1)); have n2_ := Aside0.mk (KeepBut.blk hk (g' := gb101) (o := .cells #[.int .u8 0, .slice none 0 0, .slice none 0 0, .int .i64 0] 25 (0, 0)) (bk BK101) NB101_102.out (by simp)); have n3_ := Aside0.mk (KeepBut.blk hk (g' := gb111) (o := .cells #[.int .u8 t112, u112001, u112002, .int .i64 t116] 25 (0, 0)) (bk BK111) NB111_102.out (by simp)); have n4_ := Aside0.mk (hb); have n5_ := Aside0.mk (hi); clear HO_112001; clear HO_112002; clear BK101; clear BK111; clear HB; clear HI102; have HO_112001 := n0_; have HO_112002 := n1_; have BK101 := n2_; have BK111 := n3_; have HB := n4_; have HI102 := n5_; clear n0_ n1_ n2_ n3_ n4_ n5_; (try clear hb); (try clear hb2); (try clear hk); (try clear hi); obtain ⟨ASz88_0, cSz88_0, HGz88, hgz88, ⟨HSz88_0, HTz88_0⟩⟩ := HI102.out; have hcz88_0 := cellS65_0 HGz88; have hcz88_1 := cellS65_1 HGz88; have hcz88_2 := cellS65_2 HGz88; have hcz88_3 := cellS65_3 HGz88; have hfz88_1 := blk_frozen HGz88 1; have hfz88_2 := blk_frozen HGz88 2; have hfz88_3 := blk_frozen HGz88 3; clear HGz88 hgz88; have hnb89 := NB111_101.out; have hnc89 := NB101_111.out; have hnb90 := NB111_102.out; have hnc90 := NB102_111.out; have hcz91_0 : w87.cell? ⟨gb111, 0, none⟩ = some (.int .u8 t112) := (blk_cell BK111.out 0).trans rfl; have hcz91_1 : w87.cell? ⟨gb111, 1, none⟩ = some (u112001) := (blk_cell BK111.out 1).trans rfl; have hcz91_2 : w87.cell? ⟨gb111, 2, none⟩ = some (u112002) := (blk_cell BK111.out 2).trans rfl; have hcz91_3 : w87.cell? ⟨gb111, 3, none⟩ = some (.int .i64 t116) := (blk_cell BK111.out 3).trans rfl; have hfz91_0 := blk_frozen BK111.out 0; have hfz91_1 := blk_frozen BK111.out 1; have hfz91_2 := blk_frozen BK111.out 2; have hfz91_3 := blk_frozen BK111.out 3; have hnb92 := NB101_102.out; have hnc92 := NB102_101.out; have hcz93_0 : w87.cell? ⟨gb101, 0, none⟩ = some (.int .u8 0) := (blk_cell BK101.out 0).trans rfl; have hcz93_1 : w87.cell? ⟨gb101, 1, none⟩ = some (.slice none 0 0) := (blk_cell BK101.out 1).trans rfl; have hcz93_2 : w87.cell? ⟨gb101, 2, none⟩ = some (.slice none 0 0) := (blk_cell BK101.out 2).trans rfl; have hcz93_3 : w87.cell? ⟨gb101, 3, none⟩ = some (.int .i64 0) := (blk_cell BK101.out 3).trans rfl; have hfz93_0 := blk_frozen BK101.out 0; have hfz93_1 := blk_frozen BK101.out 1; have hfz93_2 := blk_frozen BK101.out 2; have hfz93_3 := blk_frozen BK101.out 3; obtain ⟨Ao94, co94, eo94⟩ := Kd.R_slice HO_112001.out; subst eo94; obtain ⟨Ao95, co95, eo95⟩ := Kd.R_slice HO_112002.out; subst eo95))
           refine bodyPost_ret (results_ctt rfl _ _ gb101 25 #[.int .u8 t112, .slice Ao94 x112001_9.length co94, .slice Ao95 x112002_2.length co95, .int .i64 t116] (0, 0) _ rfl (by (with_reducible repeat (first | refine blk_drewN ?_ _ | refine blk_drew ?_ | refine blk_alloc ?_ _)); refine blk_put (cs := #[.int .u8 t112, .slice Ao94 x112001_9.length co94, .slice Ao95 x112002_2.length co95, .int .i64 0]) ?_ 3 _ rfl; (with_reducible repeat (first | refine blk_drewN ?_ _ | refine blk_drew ?_ | refine blk_alloc ?_ _)); refine blk_put (cs := #[.int .u8 t112, .slice Ao94 x112001_9.length co94, .slice none 0 0, .int .i64 0]) ?_ 2 _ rfl; (with_reducible repeat (first | refine blk_drewN ?_ _ | refine blk_drew ?_ | refine blk_alloc ?_ _)); refine blk_put (cs := #[.int .u8 t112, .slice none 0 0, .slice none 0 0, .int .i64 0]) ?_ 1 _ rfl; (with_reducible repeat (first | refine blk_drewN ?_ _ | refine blk_drew ?_ | refine blk_alloc ?_ _)); refine blk_put (cs := #[.int .u8 0, .slice none 0 0, .slice none 0 0, .int .i64 0]) ?_ 0 _ rfl; (with_reducible repeat (first | refine blk_drewN ?_ _ | refine blk_drew ?_ | refine blk_alloc ?_ _)); exact BK101.out) Try.underlying25 rfl (by kernel_rfl)) rfl ?_
           exact ⟨_, _, by first | rfl | (simp [errW_none, errW_some] <;> rfl) | (simp [*, errW_none, errW_some] <;> rfl), by (with_reducible repeat (first | apply Kd.R_alloc | apply Kd.R_drewN | apply Kd.R_drew)); exact Kd.R_mono (Kd.R_far (p := ⟨gb101, 3, none⟩) (Kd.R_far (p := ⟨gb101, 2, none⟩) (Kd.R_far (p := ⟨gb101, 1, none⟩) (Kd.R_far (p := ⟨gb101, 0, none⟩) (Kd.R_types HO_112001.out BK101.out (by decide)) (fun _ hk => hk.2) (.int .u8 t112)) (fun _ hk => hk.2) (.slice Ao94 x112001_9.length co94)) (fun _ hk => hk.2) (.slice Ao95 x112002_2.length co95)) (fun _ hk => hk.2) (.int .i64 t116)) (fun _ hk => trivial), by (with_reducible repeat (first | apply Kd.R_alloc | apply Kd.R_drewN | apply Kd.R_drew)); exact Kd.R_mono (Kd.R_far (p := ⟨gb101, 3, none⟩) (Kd.R_far (p := ⟨gb101, 2, none⟩) (Kd.R_far (p := ⟨gb101, 1, none⟩) (Kd.R_far (p := ⟨gb101, 0, none⟩) (Kd.R_types HO_112002.out BK101.out (by decide)) (fun _ hk => hk.2) (.int .u8 t112)) (fun _ hk => hk.2) (.slice Ao94 x112001_9.length co94)) (fun _ hk => hk.2) (.slice Ao95 x112002_2.length co95)) (fun _ hk => hk.2) (.int .i64 t116)) (fun _ hk => trivial), by repeat (first | (with_reducible first | exact HB.out | apply below_alloc | apply pw_below_drewN | apply below_drew1 | refine below_set ?_ (IsS65.ge HI102.out) | refine below_set ?_ GE101.out | refine below_set ?_ GE111.out) | exact HB.out)⟩
          ·rw [if_neg c85] at H
           have c85b0 : (t157 == 0) = false := beq_eq_false_iff_ne.mpr c85
           have c85b1 : (t157 != 0) = true := bne_iff_ne.mpr c85
           simp only [Option.some.injEq, Prod.mk.injEq] at H
           obtain ⟨rfl, rfl, rfl, rfl, rfl, rfl⟩ := H
           obtain ⟨ASz96_0, cSz96_0, HGz96, hgz96, ⟨HSz96_0, HTz96_0⟩⟩ := HI102.out
           have hcz96_0 := cellS65_0 HGz96
           have hcz96_1 := cellS65_1 HGz96
           have hcz96_2 := cellS65_2 HGz96
           have hcz96_3 := cellS65_3 HGz96
           have hfz96_1 := blk_frozen HGz96 1
           have hfz96_2 := blk_frozen HGz96 2
           have hfz96_3 := blk_frozen HGz96 3
           clear HGz96 hgz96
           try go_wp2_with (first | ((with_reducible refine gate_callee (f := 50) rfl ?_); refine goesL_ (some 102) rfl rfl Try.func50 (by kernel_rfl) rfl #[.pointer (some ⟨gb102, 0, none⟩), .int .i64 210, .int .i64 x103001_2] rfl (by (try simp only [List.map_toArray, List.map_cons, List.map_nil]); first | done | rfl | (simp only [List.length_drop, List.length_take]; rfl)) ?_; (with_reducible refine (code_source_fail.calls gb102 l0 x103001_2 x103002_2 x103003_2 210 x103001_2 t156 t157 t158 w _ ?side1 ?side2 A84.out).mono ?_); (case side1 => repeat (first | (with_reducible first | exact HI102.out | apply IsS65.alloc | apply IsS65.drewN | apply IsS65.drew | apply IsS65.set_1 | apply IsS65.set_2 | apply IsS65.set_3 | refine IsS65.far ?_ NB102_101.out _ | refine IsS65.far ?_ NB102_111.out _) | exact HI102.out)); (case side2 => repeat (first | (with_reducible first | exact HB.out | apply below_alloc | apply pw_below_drewN | apply below_drew1 | refine below_set ?_ (IsS65.ge HI102.out) | refine below_set ?_ GE101.out | refine below_set ?_ GE111.out) | exact HB.out)); rintro e w97 ⟨rfl, hi, hb, hk⟩; refine ⟨_, rfl, ?_⟩; have n0_ := Aside0.mk (Kd.R_mono (Kd.R_keep (IsS65.apart (show IsS65 w _ gb102 l0 x103001_2 x103002_2 x103003_2 from by repeat (first | (with_reducible first | exact HI102.out | apply IsS65.alloc | apply IsS65.drewN | apply IsS65.drew | apply IsS65.set_1 | apply IsS65.set_2 | apply IsS65.set_3 | refine IsS65.far ?_ NB102_101.out _ | refine IsS65.far ?_ NB102_111.out _) | exact HI102.out)) (kr HO_112001) (by decide)) hk (fun _ h => h.2)) (fun _ h => h.1)); have n1_ := Aside0.mk (Kd.R_mono (Kd.R_keep (IsS65.apart (show IsS65 w _ gb102 l0 x103001_2 x103002_2 x103003_2 from by repeat (first | (with_reducible first | exact HI102.out | apply IsS65.alloc | apply IsS65.drewN | apply IsS65.drew | apply IsS65.set_1 | apply IsS65.set_2 | apply IsS65.set_3 | refine IsS65.far ?_ NB102_101.out _ | refine IsS65.far ?_ NB102_111.out _) | exact HI102.out)) (kr HO_112002) (by decide)) hk (fun _ h => h.2)) (fun _ h => h.1)); have n2_ := Aside0.mk (KeepBut.blk hk (g' := gb101) (o := .cells #[.int .u8 0, .slice none 0 0, .slice none 0 0, .int .i64 0] 25 (0, 0)) (bk BK101) NB101_102.out (by simp)); have n3_ := Aside0.mk (KeepBut.blk hk (g' := gb111) (o := .cells #[.int .u8 t112, u112001, u112002, .int .i64 t116] 25 (0, 0)) (bk BK111) NB111_102.out (by simp)); have n4_ := Aside0.mk (hb); have n5_ := Aside0.mk (hi); clear HO_112001; clear HO_112002; clear BK101; clear BK111; clear HB; clear HI102; have HO_112001 := n0_; have HO_112002 := n1_; have BK101 := n2_; have BK111 := n3_; have HB := n4_; have HI102 := n5_; clear n0_ n1_ n2_ n3_ n4_ n5_; (try clear hb); (try clear hb2); (try clear hk); (try clear hi); obtain ⟨ASz98_0, cSz98_0, HGz98, hgz98, ⟨HSz98_0, HTz98_0⟩⟩ := HI102.out; have hcz98_0 := cellS65_0 HGz98; have hcz98_1 := cellS65_1 HGz98; have hcz98_2 := cellS65_2 HGz98; have hcz98_3 := cellS65_3 HGz98; have hfz98_1 := blk_frozen HGz98 1; have hfz98_2 := blk_frozen HGz98 2; have hfz98_3 := blk_frozen HGz98 3; clear HGz98 hgz98))
           have n0_ := Aside0.mk (Kd.R_drew HO_112001.out)
           have n1_ := Aside0.mk (Kd.R_drew HO_112002.out)
           have n2_ := Aside0.mk (blk_drew BK101.out)
           have n3_ := Aside0.mk (blk_drew BK111.out)
           have n4_ := Aside0.mk (IsS65.drew HI102.out)
           have n5_ := Aside0.mk (below_drew1 HB.out)
           clear HO_112001
           clear HO_112002
           clear BK101
           clear BK111
           clear HI102
           clear HB
           have HO_112001 := n0_
           have HO_112002 := n1_
           have BK101 := n2_
           have BK111 := n3_
           have HI102 := n4_
           have HB := n5_
           clear n0_ n1_ n2_ n3_ n4_ n5_
           obtain ⟨ASy104_0, cSy104_0, HGy104, hgy104, _⟩ := HI102.out
           have BKy104 := Aside0.mk (blk_drew HGy104)
           clear HGy104 hgy104
           refine start_ (n := 12) (S := fun w' => w'.cell? ⟨gb102, 0, none⟩ = some (.slice ASy104_0 l0.length cSy104_0) ∧ w'.cell? ⟨gb102, 1, none⟩ = some (.int .i64 t156) ∧ w'.cell? ⟨gb102, 2, none⟩ = some (.int .i64 t157) ∧ w'.cell? ⟨gb102, 3, none⟩ = some (.int .i64 t158)) (ds := []) #[false, false, false, false, false, false, false, false, false, false, false, false] (by kernel_rfl) rfl rfl ⟨(blk_cell BKy104.out 0).trans rfl, (blk_cell BKy104.out 1).trans rfl, (blk_cell BKy104.out 2).trans rfl, (blk_cell BKy104.out 3).trans rfl⟩ (fun hHeld => ?_); refine with_tabW code_Decode.tab26 code_Decode.bits26 (fun HT_ HW_ => ?_)
           generalize w97.drew = w99 at BKy104 HO_112001 HO_112002 BK101 BK111 HI102 HB hHeld ⊢
           refine pu 0 (some 108) ?_; refine pu 1 (some 109) ?_; refine pu 2 (some 110) ?_; refine pu 3 (some 111) ?_; refine pu 5 (some 113) ?_; refine pu 6 (some 114) ?_; refine pu 7 (some 115) ?_; refine tk 4 (some 112) hHeld ?_; refine tk 8 (some 116) hHeld ?_
           refine on_ 9 none (fun K hK => ?_)
           have hs100 : w99.cell? ⟨gb101, 0, none⟩ = some (.int .u8 0) := (blk_cell BK101.out 0).trans rfl
           have hfs100 := blk_frozen BK101.out 0
           have hns100_1 := NB111_101.out
           have hms100_1 := NB101_111.out
           have hs101 : w99.cell? ⟨gb101, 1, none⟩ = some (.slice none 0 0) := (blk_cell BK101.out 1).trans rfl
           have hfs101 := blk_frozen BK101.out 1
           have hns101_1 := NB111_101.out
           have hms101_1 := NB101_111.out
           have hs102 : w99.cell? ⟨gb101, 2, none⟩ = some (.slice none 0 0) := (blk_cell BK101.out 2).trans rfl
           have hfs102 := blk_frozen BK101.out 2
           have hns102_1 := NB111_101.out
           have hms102_1 := NB101_111.out
           have hs103 : w99.cell? ⟨gb101, 3, none⟩ = some (.int .i64 0) := (blk_cell BK101.out 3).trans rfl
           have hfs103 := blk_frozen BK101.out 3
           have hns103_1 := NB111_101.out
           have hms103_1 := NB101_111.out
           refine skip_ (w1 := ?_) (by rfl) rfl ?_ ?_
           rotate_left
           ·go_simp
            rfl
           refine hK.out _ _ ⟨((cell_far (p := ⟨gb101, _, none⟩) NB102_101.out _).trans (((cell_far (p := ⟨gb101, _, none⟩) NB102_101.out _).trans (((cell_far (p := ⟨gb101, _, none⟩) NB102_101.out _).trans (((cell_far (p := ⟨gb101, _, none⟩) NB102_101.out _).trans (hHeld.1)))))))), ((cell_far (p := ⟨gb101, _, none⟩) NB102_101.out _).trans (((cell_far (p := ⟨gb101, _, none⟩) NB102_101.out _).trans (((cell_far (p := ⟨gb101, _, none⟩) NB102_101.out _).trans (((cell_far (p := ⟨gb101, _, none⟩) NB102_101.out _).trans (hHeld.2.1)))))))), ((cell_far (p := ⟨gb101, _, none⟩) NB102_101.out _).trans (((cell_far (p := ⟨gb101, _, none⟩) NB102_101.out _).trans (((cell_far (p := ⟨gb101, _, none⟩) NB102_101.out _).trans (((cell_far (p := ⟨gb101, _, none⟩) NB102_101.out _).trans (hHeld.2.2.1)))))))), ((cell_far (p := ⟨gb101, _, none⟩) NB102_101.out _).trans (((cell_far (p := ⟨gb101, _, none⟩) NB102_101.out _).trans (((cell_far (p := ⟨gb101, _, none⟩) NB102_101.out _).trans (((cell_far (p := ⟨gb101, _, none⟩) NB102_101.out _).trans (hHeld.2.2.2))))))))⟩ (fun hHeld => ?_)
           clear hK K
           refine pu 10 (some 3) ?_; refine pu 11 (some 4) ?_
           refine done_ (done_of HT_.out (by kernel_rfl)) ?_
           try go_wp2
           refine bodyPost_ret (results_ctt rfl _ _ gb101 25 #[.int .u8 0, .slice none 0 0, .slice none 0 0, .int .i64 0] (0, 0) _ rfl (by (with_reducible repeat (first | refine blk_drewN ?_ _ | refine blk_drew ?_ | refine blk_alloc ?_ _)); refine blk_put (cs := #[.int .u8 0, .slice none 0 0, .slice none 0 0, .int .i64 0]) ?_ 3 _ rfl; (with_reducible repeat (first | refine blk_drewN ?_ _ | refine blk_drew ?_ | refine blk_alloc ?_ _)); refine blk_put (cs := #[.int .u8 0, .slice none 0 0, .slice none 0 0, .int .i64 0]) ?_ 2 _ rfl; (with_reducible repeat (first | refine blk_drewN ?_ _ | refine blk_drew ?_ | refine blk_alloc ?_ _)); refine blk_put (cs := #[.int .u8 0, .slice none 0 0, .slice none 0 0, .int .i64 0]) ?_ 1 _ rfl; (with_reducible repeat (first | refine blk_drewN ?_ _ | refine blk_drew ?_ | refine blk_alloc ?_ _)); refine blk_put (cs := #[.int .u8 0, .slice none 0 0, .slice none 0 0, .int .i64 0]) ?_ 0 _ rfl; (with_reducible repeat (first | refine blk_drewN ?_ _ | refine blk_drew ?_ | refine blk_alloc ?_ _)); exact BK101.out) Try.underlying25 rfl (by kernel_rfl)) rfl ?_
           exact ⟨_, _, by first | rfl | (simp [errW_none, errW_some] <;> rfl) | (simp [*, errW_none, errW_some] <;> rfl), by first | exact Kd.R_nil _ _ _ _ _ | exact Kd.N_nil _ _ _ _ _ | exact Kd.V_nil _ _ _ _ _ | exact Kd.Q_nil _ _ _ _ _ | exact Kd.S_nil _ _ _ _ _, by first | exact Kd.R_nil _ _ _ _ _ | exact Kd.N_nil _ _ _ _ _ | exact Kd.V_nil _ _ _ _ _ | exact Kd.Q_nil _ _ _ _ _ | exact Kd.S_nil _ _ _ _ _, by repeat (first | (with_reducible first | exact HB.out | apply below_alloc | apply pw_below_drewN | apply below_drew1 | refine below_set ?_ (IsS65.ge HI102.out) | refine below_set ?_ GE101.out | refine below_set ?_ GE111.out) | exact HB.out)⟩
         ·rw [if_neg c83] at H
          have c83b0 : decide (x103001_2 < (l0.length : Int)) = false := decide_eq_false c83
          clear c83
          by_cases c105 : x103002_2 = 0
          ·rw [if_pos c105] at H
           have c105b0 : (x103002_2 == 0) = true := beq_iff_eq.mpr c105
           have c105b1 : (x103002_2 != 0) = false := bne_eq_false_iff_eq.mpr c105
           clear c105
           simp only [Option.some.injEq, Prod.mk.injEq] at H
           obtain ⟨rfl, rfl, rfl, rfl, rfl, rfl⟩ := H
           obtain ⟨ASz106_0, cSz106_0, HGz106, hgz106, ⟨HSz106_0, HTz106_0⟩⟩ := HI102.out
           have hcz106_0 := cellS65_0 HGz106
           have hcz106_1 := cellS65_1 HGz106
           have hcz106_2 := cellS65_2 HGz106
           have hcz106_3 := cellS65_3 HGz106
           have hfz106_1 := blk_frozen HGz106 1
           have hfz106_2 := blk_frozen HGz106 2
           have hfz106_3 := blk_frozen HGz106 3
           clear HGz106 hgz106
           have hnb107 := NB111_101.out
           have hnc107 := NB101_111.out
           have hnb108 := NB111_102.out
           have hnc108 := NB102_111.out
           have hcz109_0 : wc.cell? ⟨gb111, 0, none⟩ = some (.int .u8 t112) := (blk_cell BK111.out 0).trans rfl
           have hcz109_1 : wc.cell? ⟨gb111, 1, none⟩ = some (u112001) := (blk_cell BK111.out 1).trans rfl
           have hcz109_2 : wc.cell? ⟨gb111, 2, none⟩ = some (u112002) := (blk_cell BK111.out 2).trans rfl
           have hcz109_3 : wc.cell? ⟨gb111, 3, none⟩ = some (.int .i64 t116) := (blk_cell BK111.out 3).trans rfl
           have hfz109_0 := blk_frozen BK111.out 0
           have hfz109_1 := blk_frozen BK111.out 1
           have hfz109_2 := blk_frozen BK111.out 2
           have hfz109_3 := blk_frozen BK111.out 3
           have hnb110 := NB101_102.out
           have hnc110 := NB102_101.out
           have hcz111_0 : wc.cell? ⟨gb101, 0, none⟩ = some (.int .u8 0) := (blk_cell BK101.out 0).trans rfl
           have hcz111_1 : wc.cell? ⟨gb101, 1, none⟩ = some (.slice none 0 0) := (blk_cell BK101.out 1).trans rfl
           have hcz111_2 : wc.cell? ⟨gb101, 2, none⟩ = some (.slice none 0 0) := (blk_cell BK101.out 2).trans rfl
           have hcz111_3 : wc.cell? ⟨gb101, 3, none⟩ = some (.int .i64 0) := (blk_cell BK101.out 3).trans rfl
           have hfz111_0 := blk_frozen BK101.out 0
           have hfz111_1 := blk_frozen BK101.out 1
           have hfz111_2 := blk_frozen BK101.out 2
           have hfz111_3 := blk_frozen BK101.out 3
           obtain ⟨Ao112, co112, eo112⟩ := Kd.R_slice HO_112001.out
           subst eo112
           obtain ⟨Ao113, co113, eo113⟩ := Kd.R_slice HO_112002.out
           subst eo113
           go_wp2
           refine bodyPost_ret (results_ctt rfl _ _ gb101 25 #[.int .u8 t112, .slice Ao112 x112001_9.length co112, .slice Ao113 x112002_2.length co113, .int .i64 t116] (0, 0) _ rfl (by (with_reducible repeat (first | refine blk_drewN ?_ _ | refine blk_drew ?_ | refine blk_alloc ?_ _)); refine blk_put (cs := #[.int .u8 t112, .slice Ao112 x112001_9.length co112, .slice Ao113 x112002_2.length co113, .int .i64 0]) ?_ 3 _ rfl; (with_reducible repeat (first | refine blk_drewN ?_ _ | refine blk_drew ?_ | refine blk_alloc ?_ _)); refine blk_put (cs := #[.int .u8 t112, .slice Ao112 x112001_9.length co112, .slice none 0 0, .int .i64 0]) ?_ 2 _ rfl; (with_reducible repeat (first | refine blk_drewN ?_ _ | refine blk_drew ?_ | refine blk_alloc ?_ _)); refine blk_put (cs := #[.int .u8 t112, .slice none 0 0, .slice none 0 0, .int .i64 0]) ?_ 1 _ rfl; (with_reducible repeat (first | refine blk_drewN ?_ _ | refine blk_drew ?_ | refine blk_alloc ?_ _)); refine blk_put (cs := #[.int .u8 0, .slice none 0 0, .slice none 0 0, .int .i64 0]) ?_ 0 _ rfl; (with_reducible repeat (first | refine blk_drewN ?_ _ | refine blk_drew ?_ | refine blk_alloc ?_ _)); exact BK101.out) Try.underlying25 rfl (by kernel_rfl)) rfl ?_
           exact ⟨_, _, by first | rfl | (simp [errW_none, errW_some] <;> rfl) | (simp [*, errW_none, errW_some] <;> rfl), by (with_reducible repeat (first | apply Kd.R_alloc | apply Kd.R_drewN | apply Kd.R_drew)); exact Kd.R_mono (Kd.R_far (p := ⟨gb101, 3, none⟩) (Kd.R_far (p := ⟨gb101, 2, none⟩) (Kd.R_far (p := ⟨gb101, 1, none⟩) (Kd.R_far (p := ⟨gb101, 0, none⟩) (Kd.R_types HO_112001.out BK101.out (by decide)) (fun _ hk => hk.2) (.int .u8 t112)) (fun _ hk => hk.2) (.slice Ao112 x112001_9.length co112)) (fun _ hk => hk.2) (.slice Ao113 x112002_2.length co113)) (fun _ hk => hk.2) (.int .i64 t116)) (fun _ hk => trivial), by (with_reducible repeat (first | apply Kd.R_alloc | apply Kd.R_drewN | apply Kd.R_drew)); exact Kd.R_mono (Kd.R_far (p := ⟨gb101, 3, none⟩) (Kd.R_far (p := ⟨gb101, 2, none⟩) (Kd.R_far (p := ⟨gb101, 1, none⟩) (Kd.R_far (p := ⟨gb101, 0, none⟩) (Kd.R_types HO_112002.out BK101.out (by decide)) (fun _ hk => hk.2) (.int .u8 t112)) (fun _ hk => hk.2) (.slice Ao112 x112001_9.length co112)) (fun _ hk => hk.2) (.slice Ao113 x112002_2.length co113)) (fun _ hk => hk.2) (.int .i64 t116)) (fun _ hk => trivial), by repeat (first | (with_reducible first | exact HB.out | apply below_alloc | apply pw_below_drewN | apply below_drew1 | refine below_set ?_ (IsS65.ge HI102.out) | refine below_set ?_ GE101.out | refine below_set ?_ GE111.out) | exact HB.out)⟩
          ·rw [if_neg c105] at H
           have c105b0 : (x103002_2 == 0) = false := beq_eq_false_iff_ne.mpr c105
           have c105b1 : (x103002_2 != 0) = true := bne_iff_ne.mpr c105
           simp only [Option.some.injEq, Prod.mk.injEq] at H
           obtain ⟨rfl, rfl, rfl, rfl, rfl, rfl⟩ := H
           obtain ⟨ASz114_0, cSz114_0, HGz114, hgz114, ⟨HSz114_0, HTz114_0⟩⟩ := HI102.out
           have hcz114_0 := cellS65_0 HGz114
           have hcz114_1 := cellS65_1 HGz114
           have hcz114_2 := cellS65_2 HGz114
           have hcz114_3 := cellS65_3 HGz114
           have hfz114_1 := blk_frozen HGz114 1
           have hfz114_2 := blk_frozen HGz114 2
           have hfz114_3 := blk_frozen HGz114 3
           clear HGz114 hgz114
           try go_wp2
           have n0_ := Aside0.mk (Kd.R_drew HO_112001.out)
           have n1_ := Aside0.mk (Kd.R_drew HO_112002.out)
           have n2_ := Aside0.mk (blk_drew BK101.out)
           have n3_ := Aside0.mk (blk_drew BK111.out)
           have n4_ := Aside0.mk (IsS65.drew HI102.out)
           have n5_ := Aside0.mk (below_drew1 HB.out)
           clear HO_112001
           clear HO_112002
           clear BK101
           clear BK111
           clear HI102
           clear HB
           have HO_112001 := n0_
           have HO_112002 := n1_
           have BK101 := n2_
           have BK111 := n3_
           have HI102 := n4_
           have HB := n5_
           clear n0_ n1_ n2_ n3_ n4_ n5_
           obtain ⟨ASy120_0, cSy120_0, HGy120, hgy120, _⟩ := HI102.out
           have BKy120 := Aside0.mk (blk_drew HGy120)
           clear HGy120 hgy120
           refine start_ (n := 12) (S := fun w' => w'.cell? ⟨gb102, 0, none⟩ = some (.slice ASy120_0 l0.length cSy120_0) ∧ w'.cell? ⟨gb102, 1, none⟩ = some (.int .i64 x103001_2) ∧ w'.cell? ⟨gb102, 2, none⟩ = some (.int .i64 x103002_2) ∧ w'.cell? ⟨gb102, 3, none⟩ = some (.int .i64 x103003_2)) (ds := []) #[false, false, false, false, false, false, false, false, false, false, false, false] (by kernel_rfl) rfl rfl ⟨(blk_cell BKy120.out 0).trans rfl, (blk_cell BKy120.out 1).trans rfl, (blk_cell BKy120.out 2).trans rfl, (blk_cell BKy120.out 3).trans rfl⟩ (fun hHeld => ?_); refine with_tabW code_Decode.tab26 code_Decode.bits26 (fun HT_ HW_ => ?_)
           generalize wc.drew = w115 at BKy120 HO_112001 HO_112002 BK101 BK111 HI102 HB hHeld ⊢
           refine pu 0 (some 108) ?_; refine pu 1 (some 109) ?_; refine pu 2 (some 110) ?_; refine pu 3 (some 111) ?_; refine pu 5 (some 113) ?_; refine pu 6 (some 114) ?_; refine pu 7 (some 115) ?_; refine tk 4 (some 112) hHeld ?_; refine tk 8 (some 116) hHeld ?_
           refine on_ 9 none (fun K hK => ?_)
           have hs116 : w115.cell? ⟨gb101, 0, none⟩ = some (.int .u8 0) := (blk_cell BK101.out 0).trans rfl
           have hfs116 := blk_frozen BK101.out 0
           have hns116_1 := NB111_101.out
           have hms116_1 := NB101_111.out
           have hs117 : w115.cell? ⟨gb101, 1, none⟩ = some (.slice none 0 0) := (blk_cell BK101.out 1).trans rfl
           have hfs117 := blk_frozen BK101.out 1
           have hns117_1 := NB111_101.out
           have hms117_1 := NB101_111.out
           have hs118 : w115.cell? ⟨gb101, 2, none⟩ = some (.slice none 0 0) := (blk_cell BK101.out 2).trans rfl
           have hfs118 := blk_frozen BK101.out 2
           have hns118_1 := NB111_101.out
           have hms118_1 := NB101_111.out
           have hs119 : w115.cell? ⟨gb101, 3, none⟩ = some (.int .i64 0) := (blk_cell BK101.out 3).trans rfl
           have hfs119 := blk_frozen BK101.out 3
           have hns119_1 := NB111_101.out
           have hms119_1 := NB101_111.out
           refine skip_ (w1 := ?_) (by rfl) rfl ?_ ?_
           rotate_left
           ·go_simp
            rfl
           refine hK.out _ _ ⟨((cell_far (p := ⟨gb101, _, none⟩) NB102_101.out _).trans (((cell_far (p := ⟨gb101, _, none⟩) NB102_101.out _).trans (((cell_far (p := ⟨gb101, _, none⟩) NB102_101.out _).trans (((cell_far (p := ⟨gb101, _, none⟩) NB102_101.out _).trans (hHeld.1)))))))), ((cell_far (p := ⟨gb101, _, none⟩) NB102_101.out _).trans (((cell_far (p := ⟨gb101, _, none⟩) NB102_101.out _).trans (((cell_far (p := ⟨gb101, _, none⟩) NB102_101.out _).trans (((cell_far (p := ⟨gb101, _, none⟩) NB102_101.out _).trans (hHeld.2.1)))))))), ((cell_far (p := ⟨gb101, _, none⟩) NB102_101.out _).trans (((cell_far (p := ⟨gb101, _, none⟩) NB102_101.out _).trans (((cell_far (p := ⟨gb101, _, none⟩) NB102_101.out _).trans (((cell_far (p := ⟨gb101, _, none⟩) NB102_101.out _).trans (hHeld.2.2.1)))))))), ((cell_far (p := ⟨gb101, _, none⟩) NB102_101.out _).trans (((cell_far (p := ⟨gb101, _, none⟩) NB102_101.out _).trans (((cell_far (p := ⟨gb101, _, none⟩) NB102_101.out _).trans (((cell_far (p := ⟨gb101, _, none⟩) NB102_101.out _).trans (hHeld.2.2.2))))))))⟩ (fun hHeld => ?_)
           clear hK K
           refine pu 10 (some 3) ?_; refine pu 11 (some 4) ?_
           refine done_ (done_of HT_.out (by kernel_rfl)) ?_
           try go_wp2
           refine bodyPost_ret (results_ctt rfl _ _ gb101 25 #[.int .u8 0, .slice none 0 0, .slice none 0 0, .int .i64 0] (0, 0) _ rfl (by (with_reducible repeat (first | refine blk_drewN ?_ _ | refine blk_drew ?_ | refine blk_alloc ?_ _)); refine blk_put (cs := #[.int .u8 0, .slice none 0 0, .slice none 0 0, .int .i64 0]) ?_ 3 _ rfl; (with_reducible repeat (first | refine blk_drewN ?_ _ | refine blk_drew ?_ | refine blk_alloc ?_ _)); refine blk_put (cs := #[.int .u8 0, .slice none 0 0, .slice none 0 0, .int .i64 0]) ?_ 2 _ rfl; (with_reducible repeat (first | refine blk_drewN ?_ _ | refine blk_drew ?_ | refine blk_alloc ?_ _)); refine blk_put (cs := #[.int .u8 0, .slice none 0 0, .slice none 0 0, .int .i64 0]) ?_ 1 _ rfl; (with_reducible repeat (first | refine blk_drewN ?_ _ | refine blk_drew ?_ | refine blk_alloc ?_ _)); refine blk_put (cs := #[.int .u8 0, .slice none 0 0, .slice none 0 0, .int .i64 0]) ?_ 0 _ rfl; (with_reducible repeat (first | refine blk_drewN ?_ _ | refine blk_drew ?_ | refine blk_alloc ?_ _)); exact BK101.out) Try.underlying25 rfl (by kernel_rfl)) rfl ?_
           exact ⟨_, _, by first | rfl | (simp [errW_none, errW_some] <;> rfl) | (simp [*, errW_none, errW_some] <;> rfl), by first | exact Kd.R_nil _ _ _ _ _ | exact Kd.N_nil _ _ _ _ _ | exact Kd.V_nil _ _ _ _ _ | exact Kd.Q_nil _ _ _ _ _ | exact Kd.S_nil _ _ _ _ _, by first | exact Kd.R_nil _ _ _ _ _ | exact Kd.N_nil _ _ _ _ _ | exact Kd.V_nil _ _ _ _ _ | exact Kd.Q_nil _ _ _ _ _ | exact Kd.S_nil _ _ _ _ _, by repeat (first | (with_reducible first | exact HB.out | apply below_alloc | apply pw_below_drewN | apply below_drew1 | refine below_set ?_ (IsS65.ge HI102.out) | refine below_set ?_ GE101.out | refine below_set ?_ GE111.out) | exact HB.out)⟩

end Go.Proofs.Ytmhmappdohddeaa.H
