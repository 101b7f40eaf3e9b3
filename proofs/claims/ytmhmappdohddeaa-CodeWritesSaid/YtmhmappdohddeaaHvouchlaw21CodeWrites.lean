-- WRITTEN BY A PROGRAM OF THIS SESSION (hprint.py, compress.py), out of the translation. Lean checks it.
import Derived.Test.YtmhmappdohddeaaHx0
import Derived.Test.YtmhmappdohddeaaWStep
import Derived.Test.YtmhmappdohddeaaWMore
import Derived.Test.YtmhmappdohddeaaWMore2
import Derived.Test.YtmhmappdohddeaaWMark
import Derived.Test.YtmhmappdohddeaaHcodeEncode
import Derived.Test.YtmhmappdohddeaaHvouchlaw21works
import Derived.Test.YtmhmappdohddeaaHcodeCheck
import Derived.Test.YtmhmappdohddeaaHvouchref21Check
import Derived.Test.YtmhmappdohddeaaHvouchref21Encode
import Derived.Test.YtmhmappdohddeaaHandKept
import Derived.Test.YtmhmappdohddeaaHandLent
namespace Go.Proofs.Ytmhmappdohddeaa.H
open Go.RowKit Go.Proofs.YtmhmappdohddeaaW.PrintWords Go.Proofs.YtmhmappdohddeaaW.PrintLast Go.Proofs.YtmhmappdohddeaaW.PrintMore
attribute [local go_sem] max2_int min2_int max_two min_two max_three min_three max_four min_four   -- for this text's walks alone
set_option linter.unusedVariables false
set_option linter.unusedSimpArgs false

/-! ### vouchlaw21_CodeWrites: function 4 -/
mutual
def vouchlaw21_CodeWrites.j0 : Nat → Bool → Int → List ByteArray → List (S41) → Int → Option (Bool)
 | 0, _, _, _, _, _ => none
 | k + 1, x20, x102000, x102001, x102002, x102003 => if x20 = true then ((code_Check.f k x102000 x102001 x102002 x102003).bind fun t102 => (if t102 = 3 then ((vouchlaw21_works.f k).bind fun t103 => (some t103)) else (some false))) else ((vouchkit_LentFull.f x102000 x102001 x102002 x102003).bind fun bt104 => ((vouchref21_Encode.f k x102000 x102001 x102002 x102003).bind fun bt113 => ((code_Encode.f k bt104.1 bt104.2.1 bt104.2.2.1 bt104.2.2.2).bind fun bt117 => (if (strOfNums bt117.1).toList = (strOfNums bt113.1).toList then (if bt117.2 = bt113.2 then ((code_Check.f k bt104.1 bt104.2.1 bt104.2.2.1 bt104.2.2.2).bind fun t121 => ((vouchref21_Check.f k x102000 x102001 x102002 x102003).bind fun t122 => (if t121 = t122 then ((vouchkit_KeptFull.f k bt104.1 bt104.2.1 bt104.2.2.1 bt104.2.2.2 x102000 x102001 x102002 x102003).bind fun t123 => (vouchlaw21_CodeWrites.j1 k bt113.1 bt117.1 (!t123) x102000 x102001 x102002 x102003 bt104.1 bt104.2.1 bt104.2.2.1 bt104.2.2.2)) else (vouchlaw21_CodeWrites.j1 k bt113.1 bt117.1 true x102000 x102001 x102002 x102003 bt104.1 bt104.2.1 bt104.2.2.1 bt104.2.2.2)))) else (vouchlaw21_CodeWrites.j1 k bt113.1 bt117.1 true x102000 x102001 x102002 x102003 bt104.1 bt104.2.1 bt104.2.2.1 bt104.2.2.2)) else (vouchlaw21_CodeWrites.j1 k bt113.1 bt117.1 true x102000 x102001 x102002 x102003 bt104.1 bt104.2.1 bt104.2.2.1 bt104.2.2.2)))))
def vouchlaw21_CodeWrites.j1 : Nat → List Int → List Int → Bool → Int → List ByteArray → List (S41) → Int → Int → List ByteArray → List (S41) → Int → Option (Bool)
 | 0, _, _, _, _, _, _, _, _, _, _, _ => none
 | k + 1, x4, x6, x61, x102000, x102001, x102002, x102003, x113000, x113001, x113002, x113003 => if x61 = true then (some false) else (vouchlaw21_CodeWrites.l0 k x4 x6 0 x102000 x102001 x102002 x102003 x113000 x113001 x113002 x113003)
def vouchlaw21_CodeWrites.l0 : Nat → List Int → List Int → Int → Int → List ByteArray → List (S41) → Int → Int → List ByteArray → List (S41) → Int → Option (Bool)
 | 0, _, _, _, _, _, _, _, _, _, _, _ => none
 | k + 1, x4, x6, x8, x102000, x102001, x102002, x102003, x113000, x113001, x113002, x113003 => if x8 < (x6.length : Int) then (if 0 ≤ x8 then (vouchlaw21_CodeWrites.l0 k x4 (x6.set (x8 : Int).toNat 99) (wrap64 (x8 + 1)) x102000 x102001 x102002 x102003 x113000 x113001 x113002 x113003) else (none)) else ((code_Encode.f k x113000 x113001 x113002 x113003).bind fun bt125 => (if (strOfNums bt125.1).toList = (strOfNums x4).toList then ((vouchkit_KeptFull.f k x113000 x113001 x113002 x113003 x102000 x102001 x102002 x102003).bind fun t129 => (if t129 = true then ((vouchlaw21_works.f k).bind fun t130 => (some t130)) else (some false))) else (some false)))
end
def vouchlaw21_CodeWrites.f (k : Nat) (a0_0 : Int) (l0_1 : List ByteArray) (l0_2 : List (S41)) (a0_3 : Int) : Option (Bool) := if (l0_2.length : Int) > 65536 then (vouchlaw21_CodeWrites.j0 k true a0_0 l0_1 l0_2 a0_3) else (vouchlaw21_CodeWrites.j0 k (decide ((l0_1.length : Int) > 65536)) a0_0 l0_1 l0_2 a0_3)
theorem vouchlaw21_CodeWrites.mono_l : ∀ k, (∀ y0 y1 y2 y3 y4, LeO (vouchlaw21_CodeWrites.j0 k y0 y1 y2 y3 y4) (vouchlaw21_CodeWrites.j0 (k + 1) y0 y1 y2 y3 y4)) ∧ (∀ y0 y1 y2 y3 y4 y5 y6 y7 y8 y9 y10, LeO (vouchlaw21_CodeWrites.j1 k y0 y1 y2 y3 y4 y5 y6 y7 y8 y9 y10) (vouchlaw21_CodeWrites.j1 (k + 1) y0 y1 y2 y3 y4 y5 y6 y7 y8 y9 y10)) ∧ (∀ y0 y1 y2 y3 y4 y5 y6 y7 y8 y9 y10, LeO (vouchlaw21_CodeWrites.l0 k y0 y1 y2 y3 y4 y5 y6 y7 y8 y9 y10) (vouchlaw21_CodeWrites.l0 (k + 1) y0 y1 y2 y3 y4 y5 y6 y7 y8 y9 y10))
 | 0 => ⟨fun _ _ _ _ _ r h => by simp [vouchlaw21_CodeWrites.j0] at h, fun _ _ _ _ _ _ _ _ _ _ _ r h => by simp [vouchlaw21_CodeWrites.j1] at h, fun _ _ _ _ _ _ _ _ _ _ _ r h => by simp [vouchlaw21_CodeWrites.l0] at h⟩
 | k + 1 => by
  obtain ⟨ih0, ih1, ih2⟩ := vouchlaw21_CodeWrites.mono_l k
  refine ⟨?_, ?_, ?_⟩
  ·intro y0 y1 y2 y3 y4
   unfold vouchlaw21_CodeWrites.j0
   repeat' first
   | (with_reducible exact ih0 _ _ _ _ _)
   | (with_reducible exact ih1 _ _ _ _ _ _ _ _ _ _ _)
   | (with_reducible exact ih2 _ _ _ _ _ _ _ _ _ _ _)
   | (with_reducible exact code_Check.mono _ _ _ _ _)
   | (with_reducible exact code_Encode.mono _ _ _ _ _)
   | (with_reducible exact vouchkit_KeptFull.mono _ _ _ _ _ _ _ _ _)
   | (with_reducible exact vouchlaw21_works.mono _)
   | (with_reducible exact vouchref21_Check.mono _ _ _ _ _)
   | (with_reducible exact vouchref21_Encode.mono _ _ _ _ _)
   | (with_reducible exact LeO.refl _)
   | (with_reducible exact LeO.none _)
   | (with_reducible refine LeO.ite ?_ ?_)
   | (with_reducible refine LeO.bind ?_ (fun _ => ?_))
   | exact ih0 _ _ _ _ _
   | exact ih1 _ _ _ _ _ _ _ _ _ _ _
   | exact ih2 _ _ _ _ _ _ _ _ _ _ _
   | exact code_Check.mono _ _ _ _ _
   | exact code_Encode.mono _ _ _ _ _
   | exact vouchkit_KeptFull.mono _ _ _ _ _ _ _ _ _
   | exact vouchlaw21_works.mono _
   | exact vouchref21_Check.mono _ _ _ _ _
   | exact vouchref21_Encode.mono _ _ _ _ _
   | exact LeO.none _
   | refine LeO.ite ?_ ?_
   | refine LeO.bind ?_ (fun _ => ?_)
  ·intro y0 y1 y2 y3 y4 y5 y6 y7 y8 y9 y10
   unfold vouchlaw21_CodeWrites.j1
   repeat' first
   | (with_reducible exact ih0 _ _ _ _ _)
   | (with_reducible exact ih1 _ _ _ _ _ _ _ _ _ _ _)
   | (with_reducible exact ih2 _ _ _ _ _ _ _ _ _ _ _)
   | (with_reducible exact code_Check.mono _ _ _ _ _)
   | (with_reducible exact code_Encode.mono _ _ _ _ _)
   | (with_reducible exact vouchkit_KeptFull.mono _ _ _ _ _ _ _ _ _)
   | (with_reducible exact vouchlaw21_works.mono _)
   | (with_reducible exact vouchref21_Check.mono _ _ _ _ _)
   | (with_reducible exact vouchref21_Encode.mono _ _ _ _ _)
   | (with_reducible exact LeO.refl _)
   | (with_reducible exact LeO.none _)
   | (with_reducible refine LeO.ite ?_ ?_)
   | (with_reducible refine LeO.bind ?_ (fun _ => ?_))
   | exact ih0 _ _ _ _ _
   | exact ih1 _ _ _ _ _ _ _ _ _ _ _
   | exact ih2 _ _ _ _ _ _ _ _ _ _ _
   | exact code_Check.mono _ _ _ _ _
   | exact code_Encode.mono _ _ _ _ _
   | exact vouchkit_KeptFull.mono _ _ _ _ _ _ _ _ _
   | exact vouchlaw21_works.mono _
   | exact vouchref21_Check.mono _ _ _ _ _
   | exact vouchref21_Encode.mono _ _ _ _ _
   | exact LeO.none _
   | refine LeO.ite ?_ ?_
   | refine LeO.bind ?_ (fun _ => ?_)
  ·intro y0 y1 y2 y3 y4 y5 y6 y7 y8 y9 y10
   unfold vouchlaw21_CodeWrites.l0
   repeat' first
   | (with_reducible exact ih0 _ _ _ _ _)
   | (with_reducible exact ih1 _ _ _ _ _ _ _ _ _ _ _)
   | (with_reducible exact ih2 _ _ _ _ _ _ _ _ _ _ _)
   | (with_reducible exact code_Check.mono _ _ _ _ _)
   | (with_reducible exact code_Encode.mono _ _ _ _ _)
   | (with_reducible exact vouchkit_KeptFull.mono _ _ _ _ _ _ _ _ _)
   | (with_reducible exact vouchlaw21_works.mono _)
   | (with_reducible exact vouchref21_Check.mono _ _ _ _ _)
   | (with_reducible exact vouchref21_Encode.mono _ _ _ _ _)
   | (with_reducible exact LeO.refl _)
   | (with_reducible exact LeO.none _)
   | (with_reducible refine LeO.ite ?_ ?_)
   | (with_reducible refine LeO.bind ?_ (fun _ => ?_))
   | exact ih0 _ _ _ _ _
   | exact ih1 _ _ _ _ _ _ _ _ _ _ _
   | exact ih2 _ _ _ _ _ _ _ _ _ _ _
   | exact code_Check.mono _ _ _ _ _
   | exact code_Encode.mono _ _ _ _ _
   | exact vouchkit_KeptFull.mono _ _ _ _ _ _ _ _ _
   | exact vouchlaw21_works.mono _
   | exact vouchref21_Check.mono _ _ _ _ _
   | exact vouchref21_Encode.mono _ _ _ _ _
   | exact LeO.none _
   | refine LeO.ite ?_ ?_
   | refine LeO.bind ?_ (fun _ => ?_)
theorem vouchlaw21_CodeWrites.mono : ∀ a0 a1 a2 a3 k, LeO (vouchlaw21_CodeWrites.f k a0 a1 a2 a3) (vouchlaw21_CodeWrites.f (k + 1) a0 a1 a2 a3) := by
 intro a0 a1 a2 a3 k
 obtain ⟨ih0, ih1, ih2⟩ := vouchlaw21_CodeWrites.mono_l k
 unfold vouchlaw21_CodeWrites.f
 repeat' first
   | (with_reducible exact ih0 _ _ _ _ _)
   | (with_reducible exact ih1 _ _ _ _ _ _ _ _ _ _ _)
   | (with_reducible exact ih2 _ _ _ _ _ _ _ _ _ _ _)
   | (with_reducible exact code_Check.mono _ _ _ _ _)
   | (with_reducible exact code_Encode.mono _ _ _ _ _)
   | (with_reducible exact vouchkit_KeptFull.mono _ _ _ _ _ _ _ _ _)
   | (with_reducible exact vouchlaw21_works.mono _)
   | (with_reducible exact vouchref21_Check.mono _ _ _ _ _)
   | (with_reducible exact vouchref21_Encode.mono _ _ _ _ _)
   | (with_reducible exact LeO.refl _)
   | (with_reducible exact LeO.none _)
   | (with_reducible refine LeO.ite ?_ ?_)
   | (with_reducible refine LeO.bind ?_ (fun _ => ?_))
   | exact ih0 _ _ _ _ _
   | exact ih1 _ _ _ _ _ _ _ _ _ _ _
   | exact ih2 _ _ _ _ _ _ _ _ _ _ _
   | exact code_Check.mono _ _ _ _ _
   | exact code_Encode.mono _ _ _ _ _
   | exact vouchkit_KeptFull.mono _ _ _ _ _ _ _ _ _
   | exact vouchlaw21_works.mono _
   | exact vouchref21_Check.mono _ _ _ _ _
   | exact vouchref21_Encode.mono _ _ _ _ _
   | exact LeO.none _
   | refine LeO.ite ?_ ?_
   | refine LeO.bind ?_ (fun _ => ?_)
def vouchlaw21_CodeWrites.T6 : Bool × List (List Nat × List Nat) := (true, [([], []), ([0], [0]), ([], []), ([2], [2]), ([1, 3], [1, 3]), ([4], [4]), ([5], [5]), ([5], [5]), ([6, 7, 5], [5, 6, 7]), ([5, 8], [5, 8]), ([9, 5], [9]), ([10], [10]), ([11, 10, 10], [10, 11]), ([10], [10]), ([13, 12, 10], [10, 13]), ([12, 14, 10], [10, 12, 14]), ([10, 15], [10, 15]), ([16, 14], [16]), ([17], [17]), ([17], [17]), ([18, 19, 17, 17], [17, 18, 19]), ([20, 17], [17, 20]), ([17, 21], [17, 21])])
def vouchlaw21_CodeWrites.B6 : List Nat := [0, 1, 0, 4, 15, 31, 63, 63, 255, 511, 1023, 2047, 4095, 2047, 16383, 32767, 65535, 131071, 262143, 262143, 1048575, 2097151, 4194303]
theorem vouchlaw21_CodeWrites.tab6 : rtab .any (opsOf Try.f4 6) = vouchlaw21_CodeWrites.T6 := by kernel_rfl
theorem vouchlaw21_CodeWrites.bits6 : waitsOk vouchlaw21_CodeWrites.T6.2 vouchlaw21_CodeWrites.B6 = true := by kernel_rfl
set_option maxHeartbeats 8000000 in
set_option maxRecDepth 100000 in
theorem vouchlaw21_CodeWrites.calls (k : Nat) (a0_0 : Int) (A0_1 : Option Addr) (c0_1 : Nat) (l0_1 : List ByteArray) (A0_2 : Option Addr) (c0_2 : Nat) (l0_2 : List (S41)) (a0_3 : Int) (r : Bool) (w : World) (hr0_1 : Kd.C Kd.string w A0_1 l0_1.length l0_1) (hc0_1 : l0_1.length ≤ c0_1) (hr0_2 : Kd.C k41 w A0_2 l0_2.length l0_2) (hc0_2 : l0_2.length ≤ c0_2) (h : vouchlaw21_CodeWrites.f k a0_0 l0_1 l0_2 a0_3 = some r) (hr_ : r = true) :
  Calls Try.prog 4 #[.agg #[.int .u8 a0_0, .slice A0_1 l0_1.length c0_1, .slice A0_2 l0_2.length c0_2, .int .i64 a0_3]] w fun e w' => e = .returned (.bool r) ∧ Below w.heap.size w w' := by
 have hu25 := Try.underlying25
 have HR0_1 := Aside0.mk hr0_1
 have HC0_1 := Aside0.mk hc0_1
 clear hr0_1 hc0_1
 have HR0_2 := Aside0.mk hr0_2
 have HC0_2 := Aside0.mk hc0_2
 clear hr0_2 hc0_2
 have HB := Aside0.mk (Below.refl w.heap.size w)
 have H : (if (l0_2.length : Int) > 65536 then (vouchlaw21_CodeWrites.j0 k true a0_0 l0_1 l0_2 a0_3) else (vouchlaw21_CodeWrites.j0 k (decide ((l0_1.length : Int) > 65536)) a0_0 l0_1 l0_2 a0_3)) = some r := h
 clear h
 have HC2 := Aside0.mk H
 clear H
 go_enter Try.func4, Try.ntmps4
 go_upto_region 1 with (first | ((with_reducible refine gate_dst (N := 1) rfl ?_); (try (refine gate_guard (by rfl) ?_; dsimp only)); refine box_event ?hg (N := 1) ?hd (cs := #[.int .u8 a0_0, .slice A0_1 l0_1.length c0_1, .slice A0_2 l0_2.length c0_2, .int .i64 a0_3]) (t := 25) ?hr ?_; (case hd => rfl); (case hg => rfl); (case hr => first | (go_simp; done) | (go_simp; rfl)); intro gb101 hg w3 hbox hb; have n0_ := Aside0.mk (below_step (bl HB) hb); have n1_ := Aside0.mk (hbox); have n2_ := Aside0.mk ((by rw [hg]; exact (below_size (bl HB)) : w.heap.size ≤ gb101)); have n3_ := Aside0.mk ((by rw [hg]; exact (below_size (bl HB)) : w.heap.size ≤ gb101)); clear HB; have HB := n0_; have BK101 := n1_; have GW101 := n2_; have GE101 := n3_; clear n0_ n1_ n2_ n3_; clear hb hbox hg))
 (try simp only [Act.put, List.setIfInBounds_toArray, List.set_cons_zero, List.set_cons_succ])
 go_cut [20] (fun v20 wc => ∃ (kq : Nat) (x20_1 : Bool), v20 = .bool x20_1 ∧ Aside0 (vouchlaw21_CodeWrites.j0 kq x20_1 a0_0 l0_1 l0_2 a0_3 = some r) ∧ Aside0 (kq ≤ k) ∧ Aside0 (wc.heap[gb101]? = some (.cells #[.int .u8 a0_0, (.slice A0_1 l0_1.length c0_1), (.slice A0_2 l0_2.length c0_2), .int .i64 a0_3] 25 (0, 0))) ∧ Aside0 (Below w.heap.size w wc))
 case first =>
  have H := HC2.out
  clear HC2
  by_cases c4 : (l0_2.length : Int) > 65536
  ·rw [if_pos c4] at H
   have c4b0 : decide (65536 < (l0_2.length : Int)) = true := decide_eq_true c4
   have c4b1 : decide (65536 < l0_2.length) = true := decide_eq_true (by omega)
   clear c4
   (first | rw [c4b0] | (simp only [i64_w, i32_w]; rw [c4b0]) | skip)
   have H' := Aside0.mk H
   clear H
   have hcz5_0 : w3.cell? ⟨gb101, 0, none⟩ = some (.int .u8 a0_0) := (blk_cell BK101.out 0).trans rfl
   have hcz5_1 : w3.cell? ⟨gb101, 1, none⟩ = some (.slice A0_1 l0_1.length c0_1) := (blk_cell BK101.out 1).trans rfl
   have hcz5_2 : w3.cell? ⟨gb101, 2, none⟩ = some (.slice A0_2 l0_2.length c0_2) := (blk_cell BK101.out 2).trans rfl
   have hcz5_3 : w3.cell? ⟨gb101, 3, none⟩ = some (.int .i64 a0_3) := (blk_cell BK101.out 3).trans rfl
   have hfz5_0 := blk_frozen BK101.out 0
   have hfz5_1 := blk_frozen BK101.out 1
   have hfz5_2 := blk_frozen BK101.out 2
   have hfz5_3 := blk_frozen BK101.out 3
   go_wp2
   go_meet
   case rel => exact ⟨_, (true), (by first | rfl | (simp; done) | (simp [*]; done)), H', ⟨by first | omega | exact Nat.le_refl _⟩, ⟨by (with_reducible repeat (first | refine blk_drewN ?_ _ | refine blk_drew ?_ | refine blk_alloc ?_ _)); exact BK101.out⟩, ⟨by repeat (first | (with_reducible first | exact HB.out | apply below_alloc | apply pw_below_drewN | apply below_drew1 | refine below_set ?_ GE101.out) | exact HB.out)⟩⟩
  ·rw [if_neg c4] at H
   have c4b0 : decide (65536 < (l0_2.length : Int)) = false := decide_eq_false c4
   have c4b1 : decide (65536 < l0_2.length) = false := decide_eq_false (by omega)
   clear c4
   (first | rw [c4b0] | (simp only [i64_w, i32_w]; rw [c4b0]) | skip)
   have H' := Aside0.mk H
   clear H
   have hcz6_0 : w3.cell? ⟨gb101, 0, none⟩ = some (.int .u8 a0_0) := (blk_cell BK101.out 0).trans rfl
   have hcz6_1 : w3.cell? ⟨gb101, 1, none⟩ = some (.slice A0_1 l0_1.length c0_1) := (blk_cell BK101.out 1).trans rfl
   have hcz6_2 : w3.cell? ⟨gb101, 2, none⟩ = some (.slice A0_2 l0_2.length c0_2) := (blk_cell BK101.out 2).trans rfl
   have hcz6_3 : w3.cell? ⟨gb101, 3, none⟩ = some (.int .i64 a0_3) := (blk_cell BK101.out 3).trans rfl
   have hfz6_0 := blk_frozen BK101.out 0
   have hfz6_1 := blk_frozen BK101.out 1
   have hfz6_2 := blk_frozen BK101.out 2
   have hfz6_3 := blk_frozen BK101.out 3
   go_wp2
   go_meet
   case rel => exact ⟨_, (decide ((l0_1.length : Int) > 65536)), (by first | rfl | (simp; done) | (simp [*]; done)), H', ⟨by first | omega | exact Nat.le_refl _⟩, ⟨by (with_reducible repeat (first | refine blk_drewN ?_ _ | refine blk_drew ?_ | refine blk_alloc ?_ _)); exact BK101.out⟩, ⟨by repeat (first | (with_reducible first | exact HB.out | apply below_alloc | apply pw_below_drewN | apply below_drew1 | refine below_set ?_ GE101.out) | exact HB.out)⟩⟩
 case rest =>
  clear HC2
  try clear p2
  try clear c4
  try clear c4b0
  try clear c4b1
  try clear hcz5_0
  try clear hcz5_1
  try clear hcz5_2
  try clear hcz5_3
  try clear hcz6_0
  try clear hcz6_1
  try clear hcz6_2
  try clear hcz6_3
  try clear hfz5_0
  try clear hfz5_1
  try clear hfz5_2
  try clear hfz5_3
  try clear hfz6_0
  try clear hfz6_1
  try clear hfz6_2
  try clear hfz6_3
  obtain ⟨kq, x20_1, rfl, HA, HJ1, BK101, HB⟩ := hcut
  cases kq with
  | zero => exact absurd HA.out (by simp [vouchlaw21_CodeWrites.j0])
  | succ kj1 =>
   have H := HA.out
   clear HA
   simp only [vouchlaw21_CodeWrites.j0] at H
   by_cases c7 : x20_1 = true
   ·subst c7
    have H1 : ((code_Check.f kj1 a0_0 l0_1 l0_2 a0_3).bind fun t102 => (if t102 = 3 then ((vouchlaw21_works.f kj1).bind fun t103 => (some t103)) else (some false))) = some r := by rw [if_pos rfl] at H; exact H
    clear H
    have H := H1
    clear H1
    replace H := Option.bind_eq_some_iff.mp H
    obtain ⟨t102, A80, H⟩ := H
    replace H : (if t102 = 3 then ((vouchlaw21_works.f kj1).bind fun t103 => (some t103)) else (some false)) = some r := H
    have A8 := Aside0.mk A80
    clear A80
    by_cases c9 : t102 = 3
    ·rw [if_pos c9] at H
     have c9b0 : (t102 == 3) = true := beq_iff_eq.mpr c9
     have c9b1 : (t102 != 3) = false := bne_eq_false_iff_eq.mpr c9
     clear c9
     replace H := Option.bind_eq_some_iff.mp H
     obtain ⟨t103, A100, H⟩ := H
     replace H : (some t103) = some r := H
     have A10 := Aside0.mk A100
     clear A100
     obtain rfl := Option.some.inj H
     have hcz11_0 : wc.cell? ⟨gb101, 0, none⟩ = some (.int .u8 a0_0) := (blk_cell BK101.out 0).trans rfl
     have hcz11_1 : wc.cell? ⟨gb101, 1, none⟩ = some (.slice A0_1 l0_1.length c0_1) := (blk_cell BK101.out 1).trans rfl
     have hcz11_2 : wc.cell? ⟨gb101, 2, none⟩ = some (.slice A0_2 l0_2.length c0_2) := (blk_cell BK101.out 2).trans rfl
     have hcz11_3 : wc.cell? ⟨gb101, 3, none⟩ = some (.int .i64 a0_3) := (blk_cell BK101.out 3).trans rfl
     have hfz11_0 := blk_frozen BK101.out 0
     have hfz11_1 := blk_frozen BK101.out 1
     have hfz11_2 := blk_frozen BK101.out 2
     have hfz11_3 := blk_frozen BK101.out 3
     go_wp2_with (first | ((with_reducible refine gate_callee (f := 13) rfl ?_); refine goesL_ (some 22) rfl rfl Try.func13 (by kernel_rfl) rfl #[.agg #[.int .u8 a0_0, .slice A0_1 l0_1.length c0_1, .slice A0_2 l0_2.length c0_2, .int .i64 a0_3]] rfl (by (try simp only [List.map_toArray, List.map_cons, List.map_nil]); first | done | rfl | (simp only [List.length_drop, List.length_take]; rfl)) ?_; (with_reducible refine (code_Check.calls kj1 a0_0 _ _ l0_1 _ _ l0_2 a0_3 t102 _ ?side1 ?side2 ?side3 ?side4 A8.out).mono ?_); (case side1 => repeat (first | exact (Kd.C_below HR0_1.out HB.out) | (with_reducible refine Kd.C_alloc ?_ _) | (with_reducible refine Kd.C_drewN ?_ _) | (with_reducible refine Kd.C_drew ?_))); (case side2 => exact HC0_1.out); (case side3 => repeat (first | exact (Kd.C_below HR0_2.out HB.out) | (with_reducible refine Kd.C_alloc ?_ _) | (with_reducible refine Kd.C_drewN ?_ _) | (with_reducible refine Kd.C_drew ?_))); (case side4 => exact HC0_2.out); rintro e w12 ⟨rfl, hb⟩; refine ⟨_, rfl, ?_⟩; have n0_ := Aside0.mk (blk_below (g := gb101) (o := .cells #[.int .u8 a0_0, .slice A0_1 l0_1.length c0_1, .slice A0_2 l0_2.length c0_2, .int .i64 a0_3] 25 (0, 0)) (bk BK101) hb); have n1_ := Aside0.mk (below_step (bl1 HB GE101) hb); clear BK101; clear HB; have BK101 := n0_; have HB := n1_; clear n0_ n1_; (try clear hb); (try clear hb2); (try clear hk); (try clear hi)) | (go_at_call 10; (with_reducible refine (vouchlaw21_works.calls kj1  t103 _ A10.out).mono ?_); rintro e w13 ⟨rfl, hb⟩; have n0_ := Aside0.mk (blk_below (g := gb101) (o := .cells #[.int .u8 a0_0, .slice A0_1 l0_1.length c0_1, .slice A0_2 l0_2.length c0_2, .int .i64 a0_3] 25 (0, 0)) (bk BK101) hb); have n1_ := Aside0.mk (below_step (bl1 HB GE101) hb); clear BK101; clear HB; have BK101 := n0_; have HB := n1_; clear n0_ n1_; (try clear hb); (try clear hb2); (try clear hk); (try clear hi)))
     go_ret
     exact ⟨by first | rfl | (simp [errW_none, errW_some] <;> rfl) | (simp [*, errW_none, errW_some] <;> rfl), by repeat (first | (with_reducible first | exact HB.out | apply below_alloc | apply pw_below_drewN | apply below_drew1 | refine below_set ?_ GE101.out) | exact HB.out)⟩
    ·rw [if_neg c9] at H
     have c9b0 : (t102 == 3) = false := beq_eq_false_iff_ne.mpr c9
     have c9b1 : (t102 != 3) = true := bne_iff_ne.mpr c9
     exact absurd (Option.some.inj H) (by rw [hr_]; decide)
   ·replace c7 := Bool.eq_false_iff.mpr c7
    subst c7
    have H1 : ((vouchkit_LentFull.f a0_0 l0_1 l0_2 a0_3).bind fun bt104 => ((vouchref21_Encode.f kj1 a0_0 l0_1 l0_2 a0_3).bind fun bt113 => ((code_Encode.f kj1 bt104.1 bt104.2.1 bt104.2.2.1 bt104.2.2.2).bind fun bt117 => (if (strOfNums bt117.1).toList = (strOfNums bt113.1).toList then (if bt117.2 = bt113.2 then ((code_Check.f kj1 bt104.1 bt104.2.1 bt104.2.2.1 bt104.2.2.2).bind fun t121 => ((vouchref21_Check.f kj1 a0_0 l0_1 l0_2 a0_3).bind fun t122 => (if t121 = t122 then ((vouchkit_KeptFull.f kj1 bt104.1 bt104.2.1 bt104.2.2.1 bt104.2.2.2 a0_0 l0_1 l0_2 a0_3).bind fun t123 => (vouchlaw21_CodeWrites.j1 kj1 bt113.1 bt117.1 (!t123) a0_0 l0_1 l0_2 a0_3 bt104.1 bt104.2.1 bt104.2.2.1 bt104.2.2.2)) else (vouchlaw21_CodeWrites.j1 kj1 bt113.1 bt117.1 true a0_0 l0_1 l0_2 a0_3 bt104.1 bt104.2.1 bt104.2.2.1 bt104.2.2.2)))) else (vouchlaw21_CodeWrites.j1 kj1 bt113.1 bt117.1 true a0_0 l0_1 l0_2 a0_3 bt104.1 bt104.2.1 bt104.2.2.1 bt104.2.2.2)) else (vouchlaw21_CodeWrites.j1 kj1 bt113.1 bt117.1 true a0_0 l0_1 l0_2 a0_3 bt104.1 bt104.2.1 bt104.2.2.1 bt104.2.2.2))))) = some r := by rw [if_neg (show ¬ (false = true) by decide)] at H; exact H
    clear H
    have H := H1
    clear H1
    replace H := Option.bind_eq_some_iff.mp H
    obtain ⟨⟨t104, t105, t108, t111⟩, A140, H⟩ := H
    replace H : ((vouchref21_Encode.f kj1 a0_0 l0_1 l0_2 a0_3).bind fun bt113 => ((code_Encode.f kj1 t104 t105 t108 t111).bind fun bt117 => (if (strOfNums bt117.1).toList = (strOfNums bt113.1).toList then (if bt117.2 = bt113.2 then ((code_Check.f kj1 t104 t105 t108 t111).bind fun t121 => ((vouchref21_Check.f kj1 a0_0 l0_1 l0_2 a0_3).bind fun t122 => (if t121 = t122 then ((vouchkit_KeptFull.f kj1 t104 t105 t108 t111 a0_0 l0_1 l0_2 a0_3).bind fun t123 => (vouchlaw21_CodeWrites.j1 kj1 bt113.1 bt117.1 (!t123) a0_0 l0_1 l0_2 a0_3 t104 t105 t108 t111)) else (vouchlaw21_CodeWrites.j1 kj1 bt113.1 bt117.1 true a0_0 l0_1 l0_2 a0_3 t104 t105 t108 t111)))) else (vouchlaw21_CodeWrites.j1 kj1 bt113.1 bt117.1 true a0_0 l0_1 l0_2 a0_3 t104 t105 t108 t111)) else (vouchlaw21_CodeWrites.j1 kj1 bt113.1 bt117.1 true a0_0 l0_1 l0_2 a0_3 t104 t105 t108 t111)))) = some r := H
    have A14 := Aside0.mk A140
    clear A140
    replace H := Option.bind_eq_some_iff.mp H
    obtain ⟨⟨t113, t116⟩, A150, H⟩ := H
    replace H : ((code_Encode.f kj1 t104 t105 t108 t111).bind fun bt117 => (if (strOfNums bt117.1).toList = (strOfNums t113).toList then (if bt117.2 = t116 then ((code_Check.f kj1 t104 t105 t108 t111).bind fun t121 => ((vouchref21_Check.f kj1 a0_0 l0_1 l0_2 a0_3).bind fun t122 => (if t121 = t122 then ((vouchkit_KeptFull.f kj1 t104 t105 t108 t111 a0_0 l0_1 l0_2 a0_3).bind fun t123 => (vouchlaw21_CodeWrites.j1 kj1 t113 bt117.1 (!t123) a0_0 l0_1 l0_2 a0_3 t104 t105 t108 t111)) else (vouchlaw21_CodeWrites.j1 kj1 t113 bt117.1 true a0_0 l0_1 l0_2 a0_3 t104 t105 t108 t111)))) else (vouchlaw21_CodeWrites.j1 kj1 t113 bt117.1 true a0_0 l0_1 l0_2 a0_3 t104 t105 t108 t111)) else (vouchlaw21_CodeWrites.j1 kj1 t113 bt117.1 true a0_0 l0_1 l0_2 a0_3 t104 t105 t108 t111))) = some r := H
    have A15 := Aside0.mk A150
    clear A150
    replace H := Option.bind_eq_some_iff.mp H
    obtain ⟨⟨t117, t120⟩, A160, H⟩ := H
    replace H : (if (strOfNums t117).toList = (strOfNums t113).toList then (if t120 = t116 then ((code_Check.f kj1 t104 t105 t108 t111).bind fun t121 => ((vouchref21_Check.f kj1 a0_0 l0_1 l0_2 a0_3).bind fun t122 => (if t121 = t122 then ((vouchkit_KeptFull.f kj1 t104 t105 t108 t111 a0_0 l0_1 l0_2 a0_3).bind fun t123 => (vouchlaw21_CodeWrites.j1 kj1 t113 t117 (!t123) a0_0 l0_1 l0_2 a0_3 t104 t105 t108 t111)) else (vouchlaw21_CodeWrites.j1 kj1 t113 t117 true a0_0 l0_1 l0_2 a0_3 t104 t105 t108 t111)))) else (vouchlaw21_CodeWrites.j1 kj1 t113 t117 true a0_0 l0_1 l0_2 a0_3 t104 t105 t108 t111)) else (vouchlaw21_CodeWrites.j1 kj1 t113 t117 true a0_0 l0_1 l0_2 a0_3 t104 t105 t108 t111)) = some r := H
    have A16 := Aside0.mk A160
    clear A160
    have HC17 := Aside0.mk H
    clear H
    have hcz18_0 : wc.cell? ⟨gb101, 0, none⟩ = some (.int .u8 a0_0) := (blk_cell BK101.out 0).trans rfl
    have hcz18_1 : wc.cell? ⟨gb101, 1, none⟩ = some (.slice A0_1 l0_1.length c0_1) := (blk_cell BK101.out 1).trans rfl
    have hcz18_2 : wc.cell? ⟨gb101, 2, none⟩ = some (.slice A0_2 l0_2.length c0_2) := (blk_cell BK101.out 2).trans rfl
    have hcz18_3 : wc.cell? ⟨gb101, 3, none⟩ = some (.int .i64 a0_3) := (blk_cell BK101.out 3).trans rfl
    have hfz18_0 := blk_frozen BK101.out 0
    have hfz18_1 := blk_frozen BK101.out 1
    have hfz18_2 := blk_frozen BK101.out 2
    have hfz18_3 := blk_frozen BK101.out 3
    go_upto_region 6 with (first | ((with_reducible refine gate_callee (f := 14) rfl ?_); refine goesL_ (some 28) rfl rfl Try.func14 (by kernel_rfl) rfl #[.agg #[.int .u8 a0_0, .slice A0_1 l0_1.length c0_1, .slice A0_2 l0_2.length c0_2, .int .i64 a0_3]] rfl (by (try simp only [List.map_toArray, List.map_cons, List.map_nil]); first | done | rfl | (simp only [List.length_drop, List.length_take]; rfl)) ?_; (with_reducible refine (vouchkit_LentFull.calls a0_0 _ _ l0_1 _ _ l0_2 a0_3 t104 t105 t108 t111 _ ?side1 ?side2 ?side3 ?side4 A14.out).mono ?_); (case side1 => repeat (first | exact (Kd.C_below HR0_1.out HB.out) | (with_reducible refine Kd.C_alloc ?_ _) | (with_reducible refine Kd.C_drewN ?_ _) | (with_reducible refine Kd.C_drew ?_))); (case side2 => exact HC0_1.out); (case side3 => repeat (first | exact (Kd.C_below HR0_2.out HB.out) | (with_reducible refine Kd.C_alloc ?_ _) | (with_reducible refine Kd.C_drewN ?_ _) | (with_reducible refine Kd.C_drew ?_))); (case side4 => exact HC0_2.out); rintro e w19 ⟨v106, v109, rfl, ho0, ho1, hb⟩; refine ⟨_, rfl, ?_⟩; have n0_ := Aside0.mk (Kd.L_lower ho0 (below_size (bl1 HB GE101))); have n1_ := Aside0.mk (Kd.L_lower ho1 (below_size (bl1 HB GE101))); have n2_ := Aside0.mk (blk_below (g := gb101) (o := .cells #[.int .u8 a0_0, .slice A0_1 l0_1.length c0_1, .slice A0_2 l0_2.length c0_2, .int .i64 a0_3] 25 (0, 0)) (bk BK101) hb); have n3_ := Aside0.mk (below_step (bl1 HB GE101) hb); clear BK101; clear HB; have HO107 := n0_; have HO110 := n1_; have BK101 := n2_; have HB := n3_; clear n0_ n1_ n2_ n3_; (try clear hb); (try clear hb2); (try clear hk); (try clear hi); (try clear ho0); (try clear ho1)) | ((with_reducible refine gate_dst (N := 3) rfl ?_); (try (refine gate_guard (by rfl) ?_; dsimp only)); refine box_event ?hg (N := 3) ?hd (cs := #[.int .u8 0, .slice none 0 0, .slice none 0 0, .int .i64 0]) (t := 25) ?hr ?_; (case hd => rfl); (case hg => rfl); (case hr => first | (go_simp; done) | (go_simp; rfl)); intro gb112 hg w20 hbox hb; have n0_ := Aside0.mk (Kd.L_below (by (with_reducible repeat (first | apply Kd.L_alloc | apply Kd.L_drewN | apply Kd.L_drew)); exact HO107.out) hb); have n1_ := Aside0.mk (Kd.L_below (by (with_reducible repeat (first | apply Kd.L_alloc | apply Kd.L_drewN | apply Kd.L_drew)); exact HO110.out) hb); have n2_ := Aside0.mk (blk_below (g := gb101) (o := .cells #[.int .u8 a0_0, .slice A0_1 l0_1.length c0_1, .slice A0_2 l0_2.length c0_2, .int .i64 a0_3] 25 (0, 0)) (bk BK101) hb); have n3_ := Aside0.mk (below_step (bl1 HB GE101) hb); have n4_ := Aside0.mk (hbox); have n5_ := Aside0.mk ((by rw [hg]; exact (below_size (bl1 HB GE101)) : w.heap.size ≤ gb112)); have n6_ := Aside0.mk ((by rw [hg]; exact (below_size (bl1 HB GE101)) : w.heap.size ≤ gb112)); have n7_ := Aside0.mk ((by rw [hg]; exact Nat.ne_of_lt (blk_lt (g := gb101) (o := .cells #[.int .u8 a0_0, .slice A0_1 l0_1.length c0_1, .slice A0_2 l0_2.length c0_2, .int .i64 a0_3] 25 (0, 0)) (bk BK101)) : gb101 ≠ gb112)); have n8_ := Aside0.mk ((by rw [hg]; exact Nat.ne_of_gt (blk_lt (g := gb101) (o := .cells #[.int .u8 a0_0, .slice A0_1 l0_1.length c0_1, .slice A0_2 l0_2.length c0_2, .int .i64 a0_3] 25 (0, 0)) (bk BK101)) : gb112 ≠ gb101)); clear HO107; clear HO110; clear BK101; clear HB; have HO107 := n0_; have HO110 := n1_; have BK101 := n2_; have HB := n3_; have BK112 := n4_; have GW112 := n5_; have GE112 := n6_; have NB101_112 := n7_; have NB112_101 := n8_; clear n0_ n1_ n2_ n3_ n4_ n5_ n6_ n7_ n8_; clear hb hbox hg; have hnb21 := NB112_101.out; have hnc21 := NB101_112.out; have hcz22_0 : w20.cell? ⟨gb112, 0, none⟩ = some (.int .u8 0) := (blk_cell BK112.out 0).trans rfl; have hcz22_1 : w20.cell? ⟨gb112, 1, none⟩ = some (.slice none 0 0) := (blk_cell BK112.out 1).trans rfl; have hcz22_2 : w20.cell? ⟨gb112, 2, none⟩ = some (.slice none 0 0) := (blk_cell BK112.out 2).trans rfl; have hcz22_3 : w20.cell? ⟨gb112, 3, none⟩ = some (.int .i64 0) := (blk_cell BK112.out 3).trans rfl; have hfz22_0 := blk_frozen BK112.out 0; have hfz22_1 := blk_frozen BK112.out 1; have hfz22_2 := blk_frozen BK112.out 2; have hfz22_3 := blk_frozen BK112.out 3; obtain ⟨Ao23, co23, eo23⟩ := Kd.L_slice HO107.out; subst eo23; obtain ⟨Ao24, co24, eo24⟩ := Kd.L_slice HO110.out; subst eo24; have hcz25_0 : w20.cell? ⟨gb101, 0, none⟩ = some (.int .u8 a0_0) := (blk_cell BK101.out 0).trans rfl; have hcz25_1 : w20.cell? ⟨gb101, 1, none⟩ = some (.slice A0_1 l0_1.length c0_1) := (blk_cell BK101.out 1).trans rfl; have hcz25_2 : w20.cell? ⟨gb101, 2, none⟩ = some (.slice A0_2 l0_2.length c0_2) := (blk_cell BK101.out 2).trans rfl; have hcz25_3 : w20.cell? ⟨gb101, 3, none⟩ = some (.int .i64 a0_3) := (blk_cell BK101.out 3).trans rfl; have hfz25_0 := blk_frozen BK101.out 0; have hfz25_1 := blk_frozen BK101.out 1; have hfz25_2 := blk_frozen BK101.out 2; have hfz25_3 := blk_frozen BK101.out 3) | ((with_reducible refine gate_callee (f := 15) rfl ?_); refine goesL_ (some 31) rfl rfl Try.func15 (by kernel_rfl) rfl #[.agg #[.int .u8 a0_0, .slice A0_1 l0_1.length c0_1, .slice A0_2 l0_2.length c0_2, .int .i64 a0_3]] rfl (by (try simp only [List.map_toArray, List.map_cons, List.map_nil]); first | done | rfl | (simp only [List.length_drop, List.length_take]; rfl)) ?_; (with_reducible refine (vouchref21_Encode.calls kj1 a0_0 _ _ l0_1 _ _ l0_2 a0_3 t113 t116 _ ?side1 ?side2 ?side3 ?side4 A15.out).mono ?_); (case side1 => exact Kd.C_below HR0_1.out (bl2 HB GE101 GE112)); (case side2 => exact HC0_1.out); (case side3 => exact Kd.C_below HR0_2.out (bl2 HB GE101 GE112)); (case side4 => exact HC0_2.out); rintro e w26 ⟨v114, rfl, ho0, hb⟩; refine ⟨_, rfl, ?_⟩; have n0_ := Aside0.mk (Kd.L_below (by (with_reducible repeat (first | apply Kd.L_alloc | apply Kd.L_drewN | apply Kd.L_drew)); exact (Kd.L_mono (Kd.L_far (p := ⟨gb112, 3, none⟩) (Kd.L_far (p := ⟨gb112, 2, none⟩) (Kd.L_far (p := ⟨gb112, 1, none⟩) (Kd.L_far (p := ⟨gb112, 0, none⟩) (Kd.L_types HO107.out BK112.out (by decide)) (fun _ hk => hk.2) (.int .u8 t104)) (fun _ hk => hk.2) (.slice Ao23 t105.length co23)) (fun _ hk => hk.2) (.slice Ao24 t108.length co24)) (fun _ hk => hk.2) (.int .i64 t111)) (fun _ h_ => h_.1))) hb); have n1_ := Aside0.mk (Kd.L_below (by (with_reducible repeat (first | apply Kd.L_alloc | apply Kd.L_drewN | apply Kd.L_drew)); exact (Kd.L_mono (Kd.L_far (p := ⟨gb112, 3, none⟩) (Kd.L_far (p := ⟨gb112, 2, none⟩) (Kd.L_far (p := ⟨gb112, 1, none⟩) (Kd.L_far (p := ⟨gb112, 0, none⟩) (Kd.L_types HO110.out BK112.out (by decide)) (fun _ hk => hk.2) (.int .u8 t104)) (fun _ hk => hk.2) (.slice Ao23 t105.length co23)) (fun _ hk => hk.2) (.slice Ao24 t108.length co24)) (fun _ hk => hk.2) (.int .i64 t111)) (fun _ h_ => h_.1))) hb); have n2_ := Aside0.mk (Kd.R_lower ho0 (below_size (bl2 HB GE101 GE112))); have n3_ := Aside0.mk (blk_below (g := gb101) (o := .cells #[.int .u8 a0_0, .slice A0_1 l0_1.length c0_1, .slice A0_2 l0_2.length c0_2, .int .i64 a0_3] 25 (0, 0)) (by (with_reducible repeat (first | refine blk_drewN ?_ _ | refine blk_drew ?_ | refine blk_alloc ?_ _)); refine blk_far ?_ NB101_112.out _; (with_reducible repeat (first | refine blk_drewN ?_ _ | refine blk_drew ?_ | refine blk_alloc ?_ _)); refine blk_far ?_ NB101_112.out _; (with_reducible repeat (first | refine blk_drewN ?_ _ | refine blk_drew ?_ | refine blk_alloc ?_ _)); refine blk_far ?_ NB101_112.out _; (with_reducible repeat (first | refine blk_drewN ?_ _ | refine blk_drew ?_ | refine blk_alloc ?_ _)); refine blk_far ?_ NB101_112.out _; (with_reducible repeat (first | refine blk_drewN ?_ _ | refine blk_drew ?_ | refine blk_alloc ?_ _)); exact BK101.out) hb); have n4_ := Aside0.mk (blk_below (g := gb112) (o := .cells #[.int .u8 t104, .slice Ao23 t105.length co23, .slice Ao24 t108.length co24, .int .i64 t111] 25 (0, 0)) (by (with_reducible repeat (first | refine blk_drewN ?_ _ | refine blk_drew ?_ | refine blk_alloc ?_ _)); refine blk_put (cs := #[.int .u8 t104, .slice Ao23 t105.length co23, .slice Ao24 t108.length co24, .int .i64 0]) ?_ 3 _ rfl; (with_reducible repeat (first | refine blk_drewN ?_ _ | refine blk_drew ?_ | refine blk_alloc ?_ _)); refine blk_put (cs := #[.int .u8 t104, .slice Ao23 t105.length co23, .slice none 0 0, .int .i64 0]) ?_ 2 _ rfl; (with_reducible repeat (first | refine blk_drewN ?_ _ | refine blk_drew ?_ | refine blk_alloc ?_ _)); refine blk_put (cs := #[.int .u8 t104, .slice none 0 0, .slice none 0 0, .int .i64 0]) ?_ 1 _ rfl; (with_reducible repeat (first | refine blk_drewN ?_ _ | refine blk_drew ?_ | refine blk_alloc ?_ _)); refine blk_put (cs := #[.int .u8 0, .slice none 0 0, .slice none 0 0, .int .i64 0]) ?_ 0 _ rfl; (with_reducible repeat (first | refine blk_drewN ?_ _ | refine blk_drew ?_ | refine blk_alloc ?_ _)); exact BK112.out) hb); have n5_ := Aside0.mk (below_step (bl2 HB GE101 GE112) hb); clear HO107; clear HO110; clear BK101; clear BK112; clear HB; have HO107 := n0_; have HO110 := n1_; have HO115 := n2_; have BK101 := n3_; have BK112 := n4_; have HB := n5_; clear n0_ n1_ n2_ n3_ n4_ n5_; (try clear hb); (try clear hb2); (try clear hk); (try clear hi); (try clear ho0); have hcz27_0 : w26.cell? ⟨gb112, 0, none⟩ = some (.int .u8 t104) := (blk_cell BK112.out 0).trans rfl; have hcz27_1 : w26.cell? ⟨gb112, 1, none⟩ = some (.slice Ao23 t105.length co23) := (blk_cell BK112.out 1).trans rfl; have hcz27_2 : w26.cell? ⟨gb112, 2, none⟩ = some (.slice Ao24 t108.length co24) := (blk_cell BK112.out 2).trans rfl; have hcz27_3 : w26.cell? ⟨gb112, 3, none⟩ = some (.int .i64 t111) := (blk_cell BK112.out 3).trans rfl; have hfz27_0 := blk_frozen BK112.out 0; have hfz27_1 := blk_frozen BK112.out 1; have hfz27_2 := blk_frozen BK112.out 2; have hfz27_3 := blk_frozen BK112.out 3) | ((with_reducible refine gate_callee (f := 11) rfl ?_); refine goesL_ (some 36) rfl rfl Try.func11 (by kernel_rfl) rfl #[.agg #[.int .u8 t104, .slice Ao23 t105.length co23, .slice Ao24 t108.length co24, .int .i64 t111]] rfl (by (try simp only [List.map_toArray, List.map_cons, List.map_nil]); first | done | rfl | (simp only [List.length_drop, List.length_take]; rfl)) ?_; (with_reducible refine (code_Encode.calls kj1 t104 _ _ t105 _ _ t108 t111 t117 t120 _ ?side1 ?side2 ?side3 ?side4 A16.out).mono ?_); (case side1 => repeat (first | exact (Kd.L_reads' HO107.out).2.2 | (with_reducible refine Kd.C_alloc ?_ _) | (with_reducible refine Kd.C_drewN ?_ _) | (with_reducible refine Kd.C_drew ?_))); (case side2 => exact (Kd.L_reads' HO107.out).2.1); (case side3 => repeat (first | exact (Kd.L_reads' HO110.out).2.2 | (with_reducible refine Kd.C_alloc ?_ _) | (with_reducible refine Kd.C_drewN ?_ _) | (with_reducible refine Kd.C_drew ?_))); (case side4 => exact (Kd.L_reads' HO110.out).2.1); rintro e w28 ⟨v118, rfl, ho0, hb⟩; refine ⟨_, rfl, ?_⟩; have n0_ := Aside0.mk (Kd.L_below (by (with_reducible repeat (first | apply Kd.L_alloc | apply Kd.L_drewN | apply Kd.L_drew)); exact HO107.out) hb); have n1_ := Aside0.mk (Kd.L_below (by (with_reducible repeat (first | apply Kd.L_alloc | apply Kd.L_drewN | apply Kd.L_drew)); exact HO110.out) hb); have n2_ := Aside0.mk (Kd.R_elder' (kr HO115) (Kd.R_base ho0) hb); have n3_ := Aside0.mk (Kd.R_lower (Kd.R_new' ho0 (Kd.R_lt (kr HO115))) (below_size (bl2 HB GE101 GE112))); have n4_ := Aside0.mk (blk_below (g := gb101) (o := .cells #[.int .u8 a0_0, .slice A0_1 l0_1.length c0_1, .slice A0_2 l0_2.length c0_2, .int .i64 a0_3] 25 (0, 0)) (bk BK101) hb); have n5_ := Aside0.mk (blk_below (g := gb112) (o := .cells #[.int .u8 t104, .slice Ao23 t105.length co23, .slice Ao24 t108.length co24, .int .i64 t111] 25 (0, 0)) (bk BK112) hb); have n6_ := Aside0.mk (below_step (bl2 HB GE101 GE112) hb); clear HO107; clear HO110; clear HO115; clear BK101; clear BK112; clear HB; have HO107 := n0_; have HO110 := n1_; have HO115 := n2_; have HO119 := n3_; have BK101 := n4_; have BK112 := n5_; have HB := n6_; clear n0_ n1_ n2_ n3_ n4_ n5_ n6_; (try clear hb); (try clear hb2); (try clear hk); (try clear hi); (try clear ho0)))
    (try simp only [Act.put, List.setIfInBounds_toArray, List.set_cons_zero, List.set_cons_succ])
    go_cut [61] (fun v61 wc => ∃ (kq : Nat) (x61_16 : Bool), v61 = .bool x61_16 ∧ Aside0 (vouchlaw21_CodeWrites.j1 kq t113 t117 x61_16 a0_0 l0_1 l0_2 a0_3 t104 t105 t108 t111 = some r) ∧ Aside0 (kq ≤ kj1) ∧ Aside0 (Kd.R (Kd.int .u8) 5 wc w.heap.size (fun k_ => some k_ ≠ (v118 : Value).ownBlock) v114 t113) ∧ Aside0 (Kd.R (Kd.int .u8) 5 wc w.heap.size (fun k_ => some k_ ≠ (v114 : Value).ownBlock) v118 t117) ∧ Aside0 (Kd.L Kd.string 9 wc w.heap.size (fun _ => True) (.slice Ao23 t105.length co23) t105) ∧ Aside0 (Kd.L k41 41 wc w.heap.size (fun _ => True) (.slice Ao24 t108.length co24) t108) ∧ Aside0 (wc.heap[gb101]? = some (.cells #[.int .u8 a0_0, (.slice A0_1 l0_1.length c0_1), (.slice A0_2 l0_2.length c0_2), .int .i64 a0_3] 25 (0, 0))) ∧ Aside0 (wc.heap[gb112]? = some (.cells #[.int .u8 t104, (.slice Ao23 t105.length co23), (.slice Ao24 t108.length co24), .int .i64 t111] 25 (0, 0))) ∧ Aside0 (Below w.heap.size w wc))
    case first =>
     have H := HC17.out
     clear HC17
     by_cases c29 : (strOfNums t117).toList = (strOfNums t113).toList
     ·rw [if_pos c29] at H
      have c29b0 : ((strOfNums t117).toList == (strOfNums t113).toList) = true := beq_iff_eq.mpr c29
      have c29b1 : ((strOfNums t117).toList != (strOfNums t113).toList) = false := bne_eq_false_iff_eq.mpr c29
      clear c29
      (first | rw [c29b0] | (simp only [i64_w, i32_w]; rw [c29b0]) | skip)
      by_cases c30 : t120 = t116
      ·rw [if_pos c30] at H
       have c30b0 : (t120 == t116) = true := beq_iff_eq.mpr c30
       have c30b1 : (t120 != t116) = false := bne_eq_false_iff_eq.mpr c30
       clear c30
       replace H := Option.bind_eq_some_iff.mp H
       obtain ⟨t121, A310, H⟩ := H
       replace H : ((vouchref21_Check.f kj1 a0_0 l0_1 l0_2 a0_3).bind fun t122 => (if t121 = t122 then ((vouchkit_KeptFull.f kj1 t104 t105 t108 t111 a0_0 l0_1 l0_2 a0_3).bind fun t123 => (vouchlaw21_CodeWrites.j1 kj1 t113 t117 (!t123) a0_0 l0_1 l0_2 a0_3 t104 t105 t108 t111)) else (vouchlaw21_CodeWrites.j1 kj1 t113 t117 true a0_0 l0_1 l0_2 a0_3 t104 t105 t108 t111))) = some r := H
       have A31 := Aside0.mk A310
       clear A310
       replace H := Option.bind_eq_some_iff.mp H
       obtain ⟨t122, A320, H⟩ := H
       replace H : (if t121 = t122 then ((vouchkit_KeptFull.f kj1 t104 t105 t108 t111 a0_0 l0_1 l0_2 a0_3).bind fun t123 => (vouchlaw21_CodeWrites.j1 kj1 t113 t117 (!t123) a0_0 l0_1 l0_2 a0_3 t104 t105 t108 t111)) else (vouchlaw21_CodeWrites.j1 kj1 t113 t117 true a0_0 l0_1 l0_2 a0_3 t104 t105 t108 t111)) = some r := H
       have A32 := Aside0.mk A320
       clear A320
       by_cases c33 : t121 = t122
       ·rw [if_pos c33] at H
        have c33b0 : (t121 == t122) = true := beq_iff_eq.mpr c33
        have c33b1 : (t121 != t122) = false := bne_eq_false_iff_eq.mpr c33
        clear c33
        replace H := Option.bind_eq_some_iff.mp H
        obtain ⟨t123, A340, H⟩ := H
        replace H : (vouchlaw21_CodeWrites.j1 kj1 t113 t117 (!t123) a0_0 l0_1 l0_2 a0_3 t104 t105 t108 t111) = some r := H
        have A34 := Aside0.mk A340
        clear A340
        have H' := Aside0.mk H
        clear H
        try go_wp2
        have n0_ := Aside0.mk (Kd.L_drew HO107.out)
        have n1_ := Aside0.mk (Kd.L_drew HO110.out)
        have n2_ := Aside0.mk (Kd.R_drew HO115.out)
        have n3_ := Aside0.mk (Kd.R_drew HO119.out)
        have n4_ := Aside0.mk (blk_drew BK101.out)
        have n5_ := Aside0.mk (blk_drew BK112.out)
        have n6_ := Aside0.mk (below_drew1 HB.out)
        clear HO107
        clear HO110
        clear HO115
        clear HO119
        clear BK101
        clear BK112
        clear HB
        have HO107 := n0_
        have HO110 := n1_
        have HO115 := n2_
        have HO119 := n3_
        have BK101 := n4_
        have BK112 := n5_
        have HB := n6_
        clear n0_ n1_ n2_ n3_ n4_ n5_ n6_
        refine start_ (n := 23) (S := fun w' => w'.cell? ⟨gb112, 0, none⟩ = some (.int .u8 t104) ∧ w'.cell? ⟨gb112, 1, none⟩ = some (.slice Ao23 t105.length co23) ∧ w'.cell? ⟨gb112, 2, none⟩ = some (.slice Ao24 t108.length co24) ∧ w'.cell? ⟨gb112, 3, none⟩ = some (.int .i64 t111) ∧ w'.cell? ⟨gb101, 0, none⟩ = some (.int .u8 a0_0) ∧ w'.cell? ⟨gb101, 1, none⟩ = some (.slice A0_1 l0_1.length c0_1) ∧ w'.cell? ⟨gb101, 2, none⟩ = some (.slice A0_2 l0_2.length c0_2) ∧ w'.cell? ⟨gb101, 3, none⟩ = some (.int .i64 a0_3) ∧ Sem.run Try.prog (convert 27 9 v118) w' = .ok (.string (strOfNums t117)) w' ∧ Sem.run Try.prog (convert 27 9 v114) w' = .ok (.string (strOfNums t113)) w') (ds := []) #[false, false, false, false, false, false, false, false, false, false, false, false, false, false, false, false, false, false, false, false, false, false, false] (by kernel_rfl) rfl rfl ⟨(blk_cell BK112.out 0).trans rfl, (blk_cell BK112.out 1).trans rfl, (blk_cell BK112.out 2).trans rfl, (blk_cell BK112.out 3).trans rfl, (blk_cell BK101.out 0).trans rfl, (blk_cell BK101.out 1).trans rfl, (blk_cell BK101.out 2).trans rfl, (blk_cell BK101.out 3).trans rfl, (own_string (P := Try.prog) Try.underlying27 Try.underlying5 Try.underlying9 (Kd.own_of_R HO119.out)), (own_string (P := Try.prog) Try.underlying27 Try.underlying5 Try.underlying9 (Kd.own_of_R HO115.out))⟩ (fun hHeld => ?_); refine with_tabW vouchlaw21_CodeWrites.tab6 vouchlaw21_CodeWrites.bits6 (fun HT_ HW_ => ?_)
        generalize w28.drew = w35 at HO107 HO110 HO115 HO119 BK101 BK112 HB hHeld ⊢
        refine pu 0 (some 39) ?_; refine pu 2 (some 41) ?_; refine tk 1 (some 40) hHeld ?_; refine tk 3 (some 42) hHeld ?_; refine pu 4 (some 43) ?_; refine pu 5 (some 44) ?_; refine pu 6 (some 45) ?_; refine pu 7 (some 46) ?_; refine pu 8 (some 47) ?_; refine pu 9 (some 48) ?_; refine pu 10 (some 49) ?_; refine tk 11 (some 50) hHeld ?_; refine tk 13 (some 52) hHeld ?_
        refine on_ 12 (some 51) (fun K hK => ?_)
        refine goes_ Try.func13 (by kernel_rfl) rfl #[.agg #[.int .u8 t104, .slice Ao23 t105.length co23, .slice Ao24 t108.length co24, .int .i64 t111]] (by rfl) rfl rfl (by (try simp only [List.map_toArray, List.map_cons, List.map_nil]); first | done | rfl | (simp only [List.length_drop, List.length_take]; rfl)) ?_
        with_reducible refine (code_Check.calls kj1 t104 _ _ t105 _ _ t108 t111 t121 _ ?side1 ?side2 ?side3 ?side4 A31.out).mono ?_
        (case side1 => repeat (first | exact (Kd.L_reads' HO107.out).2.2 | (with_reducible refine Kd.C_alloc ?_ _) | (with_reducible refine Kd.C_drewN ?_ _) | (with_reducible refine Kd.C_drew ?_)))
        (case side2 => exact (Kd.L_reads' HO107.out).2.1)
        (case side3 => repeat (first | exact (Kd.L_reads' HO110.out).2.2 | (with_reducible refine Kd.C_alloc ?_ _) | (with_reducible refine Kd.C_drewN ?_ _) | (with_reducible refine Kd.C_drew ?_)))
        (case side4 => exact (Kd.L_reads' HO110.out).2.1)
        rintro e w37 ⟨rfl, hb⟩
        refine ⟨_, rfl, ?_⟩
        have n0_ := Aside0.mk (Kd.L_below (by (with_reducible repeat (first | apply Kd.L_alloc | apply Kd.L_drewN | apply Kd.L_drew)); exact HO107.out) hb)
        have n1_ := Aside0.mk (Kd.L_below (by (with_reducible repeat (first | apply Kd.L_alloc | apply Kd.L_drewN | apply Kd.L_drew)); exact HO110.out) hb)
        have n2_ := Aside0.mk (Kd.R_below (kr HO115) hb)
        have n3_ := Aside0.mk (Kd.R_below (kr HO119) hb)
        have n4_ := Aside0.mk (blk_below (g := gb101) (o := .cells #[.int .u8 a0_0, .slice A0_1 l0_1.length c0_1, .slice A0_2 l0_2.length c0_2, .int .i64 a0_3] 25 (0, 0)) (bk BK101) hb)
        have n5_ := Aside0.mk (blk_below (g := gb112) (o := .cells #[.int .u8 t104, .slice Ao23 t105.length co23, .slice Ao24 t108.length co24, .int .i64 t111] 25 (0, 0)) (bk BK112) hb)
        have n6_ := Aside0.mk (below_step (bl2 HB GE101 GE112) hb)
        clear HO107
        clear HO110
        clear HO115
        clear HO119
        clear BK101
        clear BK112
        clear HB
        have HO107 := n0_
        have HO110 := n1_
        have HO115 := n2_
        have HO119 := n3_
        have BK101 := n4_
        have BK112 := n5_
        have HB := n6_
        clear n0_ n1_ n2_ n3_ n4_ n5_ n6_
        (try clear hb)
        (try clear hb2)
        (try clear hk)
        (try clear hi)
        refine hK.out _ _ ⟨(blk_cell BK112.out 0).trans rfl, (blk_cell BK112.out 1).trans rfl, (blk_cell BK112.out 2).trans rfl, (blk_cell BK112.out 3).trans rfl, (blk_cell BK101.out 0).trans rfl, (blk_cell BK101.out 1).trans rfl, (blk_cell BK101.out 2).trans rfl, (blk_cell BK101.out 3).trans rfl, (own_string (P := Try.prog) Try.underlying27 Try.underlying5 Try.underlying9 (Kd.own_of_R HO119.out)), (own_string (P := Try.prog) Try.underlying27 Try.underlying5 Try.underlying9 (Kd.own_of_R HO115.out))⟩ (fun hHeld => ?_)
        clear hK K
        refine norm_ (a' := ?_) ?_ ?_
        rotate_left
        ·show Act.put _ (some 51) _ = _
         simp only [Act.put, List.setIfInBounds_toArray, List.set_cons_zero, List.set_cons_succ, i64_w, i32_w]
         rfl
        refine on_ 14 (some 53) (fun K hK => ?_)
        refine goes_ Try.func16 (by kernel_rfl) rfl #[.agg #[.int .u8 a0_0, .slice A0_1 l0_1.length c0_1, .slice A0_2 l0_2.length c0_2, .int .i64 a0_3]] (by rfl) rfl rfl (by (try simp only [List.map_toArray, List.map_cons, List.map_nil]); first | done | rfl | (simp only [List.length_drop, List.length_take]; rfl)) ?_
        with_reducible refine (vouchref21_Check.calls kj1 a0_0 _ _ l0_1 _ _ l0_2 a0_3 t122 _ ?side1 ?side2 ?side3 ?side4 A32.out).mono ?_
        (case side1 => repeat (first | exact (Kd.C_below HR0_1.out HB.out) | (with_reducible refine Kd.C_alloc ?_ _) | (with_reducible refine Kd.C_drewN ?_ _) | (with_reducible refine Kd.C_drew ?_)))
        (case side2 => exact HC0_1.out)
        (case side3 => repeat (first | exact (Kd.C_below HR0_2.out HB.out) | (with_reducible refine Kd.C_alloc ?_ _) | (with_reducible refine Kd.C_drewN ?_ _) | (with_reducible refine Kd.C_drew ?_)))
        (case side4 => exact HC0_2.out)
        rintro e w38 ⟨rfl, hb⟩
        refine ⟨_, rfl, ?_⟩
        have n0_ := Aside0.mk (Kd.L_below (by (with_reducible repeat (first | apply Kd.L_alloc | apply Kd.L_drewN | apply Kd.L_drew)); exact HO107.out) hb)
        have n1_ := Aside0.mk (Kd.L_below (by (with_reducible repeat (first | apply Kd.L_alloc | apply Kd.L_drewN | apply Kd.L_drew)); exact HO110.out) hb)
        have n2_ := Aside0.mk (Kd.R_below (kr HO115) hb)
        have n3_ := Aside0.mk (Kd.R_below (kr HO119) hb)
        have n4_ := Aside0.mk (blk_below (g := gb101) (o := .cells #[.int .u8 a0_0, .slice A0_1 l0_1.length c0_1, .slice A0_2 l0_2.length c0_2, .int .i64 a0_3] 25 (0, 0)) (bk BK101) hb)
        have n5_ := Aside0.mk (blk_below (g := gb112) (o := .cells #[.int .u8 t104, .slice Ao23 t105.length co23, .slice Ao24 t108.length co24, .int .i64 t111] 25 (0, 0)) (bk BK112) hb)
        have n6_ := Aside0.mk (below_step (bl2 HB GE101 GE112) hb)
        clear HO107
        clear HO110
        clear HO115
        clear HO119
        clear BK101
        clear BK112
        clear HB
        have HO107 := n0_
        have HO110 := n1_
        have HO115 := n2_
        have HO119 := n3_
        have BK101 := n4_
        have BK112 := n5_
        have HB := n6_
        clear n0_ n1_ n2_ n3_ n4_ n5_ n6_
        (try clear hb)
        (try clear hb2)
        (try clear hk)
        (try clear hi)
        refine hK.out _ _ ⟨(blk_cell BK112.out 0).trans rfl, (blk_cell BK112.out 1).trans rfl, (blk_cell BK112.out 2).trans rfl, (blk_cell BK112.out 3).trans rfl, (blk_cell BK101.out 0).trans rfl, (blk_cell BK101.out 1).trans rfl, (blk_cell BK101.out 2).trans rfl, (blk_cell BK101.out 3).trans rfl, (own_string (P := Try.prog) Try.underlying27 Try.underlying5 Try.underlying9 (Kd.own_of_R HO119.out)), (own_string (P := Try.prog) Try.underlying27 Try.underlying5 Try.underlying9 (Kd.own_of_R HO115.out))⟩ (fun hHeld => ?_)
        clear hK K
        refine norm_ (a' := ?_) ?_ ?_
        rotate_left
        ·show Act.put _ (some 53) _ = _
         simp only [Act.put, List.setIfInBounds_toArray, List.set_cons_zero, List.set_cons_succ, i64_w, i32_w]
         rfl
        refine pu 15 (some 54) ?_; refine pu 16 (some 55) ?_; refine pu 17 (some 56) ?_; refine tk 18 (some 57) hHeld ?_; refine tk 19 (some 58) hHeld ?_
        refine on_ 20 (some 59) (fun K hK => ?_)
        refine goes_ Try.func17 (by kernel_rfl) rfl #[.agg #[.int .u8 t104, .slice Ao23 t105.length co23, .slice Ao24 t108.length co24, .int .i64 t111], .agg #[.int .u8 a0_0, .slice A0_1 l0_1.length c0_1, .slice A0_2 l0_2.length c0_2, .int .i64 a0_3]] (by rfl) rfl rfl (by (try simp only [List.map_toArray, List.map_cons, List.map_nil]); first | done | rfl | (simp only [List.length_drop, List.length_take]; rfl)) ?_
        with_reducible refine (vouchkit_KeptFull.calls kj1 t104 _ _ t105 _ _ t108 t111 a0_0 _ _ l0_1 _ _ l0_2 a0_3 t123 _ ?side1 ?side2 ?side3 ?side4 ?side5 ?side6 ?side7 ?side8 A34.out).mono ?_
        (case side1 => repeat (first | exact (Kd.L_full' HO107.out).2 | (with_reducible refine Kd.C_alloc ?_ _) | (with_reducible refine Kd.C_drewN ?_ _) | (with_reducible refine Kd.C_drew ?_)))
        (case side2 => exact (Kd.L_full' HO107.out).1)
        (case side3 => repeat (first | exact (Kd.L_full' HO110.out).2 | (with_reducible refine Kd.C_alloc ?_ _) | (with_reducible refine Kd.C_drewN ?_ _) | (with_reducible refine Kd.C_drew ?_)))
        (case side4 => exact (Kd.L_full' HO110.out).1)
        (case side5 => repeat (first | exact (Kd.C_below HR0_1.out HB.out) | (with_reducible refine Kd.C_alloc ?_ _) | (with_reducible refine Kd.C_drewN ?_ _) | (with_reducible refine Kd.C_drew ?_)))
        (case side6 => exact HC0_1.out)
        (case side7 => repeat (first | exact (Kd.C_below HR0_2.out HB.out) | (with_reducible refine Kd.C_alloc ?_ _) | (with_reducible refine Kd.C_drewN ?_ _) | (with_reducible refine Kd.C_drew ?_)))
        (case side8 => exact HC0_2.out)
        rintro e w39 ⟨rfl, hb⟩
        refine ⟨_, rfl, ?_⟩
        have n0_ := Aside0.mk (Kd.L_below (by (with_reducible repeat (first | apply Kd.L_alloc | apply Kd.L_drewN | apply Kd.L_drew)); exact HO107.out) hb)
        have n1_ := Aside0.mk (Kd.L_below (by (with_reducible repeat (first | apply Kd.L_alloc | apply Kd.L_drewN | apply Kd.L_drew)); exact HO110.out) hb)
        have n2_ := Aside0.mk (Kd.R_below (kr HO115) hb)
        have n3_ := Aside0.mk (Kd.R_below (kr HO119) hb)
        have n4_ := Aside0.mk (blk_below (g := gb101) (o := .cells #[.int .u8 a0_0, .slice A0_1 l0_1.length c0_1, .slice A0_2 l0_2.length c0_2, .int .i64 a0_3] 25 (0, 0)) (bk BK101) hb)
        have n5_ := Aside0.mk (blk_below (g := gb112) (o := .cells #[.int .u8 t104, .slice Ao23 t105.length co23, .slice Ao24 t108.length co24, .int .i64 t111] 25 (0, 0)) (bk BK112) hb)
        have n6_ := Aside0.mk (below_step (bl2 HB GE101 GE112) hb)
        clear HO107
        clear HO110
        clear HO115
        clear HO119
        clear BK101
        clear BK112
        clear HB
        have HO107 := n0_
        have HO110 := n1_
        have HO115 := n2_
        have HO119 := n3_
        have BK101 := n4_
        have BK112 := n5_
        have HB := n6_
        clear n0_ n1_ n2_ n3_ n4_ n5_ n6_
        (try clear hb)
        (try clear hb2)
        (try clear hk)
        (try clear hi)
        refine hK.out _ _ ⟨(blk_cell BK112.out 0).trans rfl, (blk_cell BK112.out 1).trans rfl, (blk_cell BK112.out 2).trans rfl, (blk_cell BK112.out 3).trans rfl, (blk_cell BK101.out 0).trans rfl, (blk_cell BK101.out 1).trans rfl, (blk_cell BK101.out 2).trans rfl, (blk_cell BK101.out 3).trans rfl, (own_string (P := Try.prog) Try.underlying27 Try.underlying5 Try.underlying9 (Kd.own_of_R HO119.out)), (own_string (P := Try.prog) Try.underlying27 Try.underlying5 Try.underlying9 (Kd.own_of_R HO115.out))⟩ (fun hHeld => ?_)
        clear hK K
        refine norm_ (a' := ?_) ?_ ?_
        rotate_left
        ·show Act.put _ (some 59) _ = _
         simp only [Act.put, List.setIfInBounds_toArray, List.set_cons_zero, List.set_cons_succ, i64_w, i32_w]
         rfl
        refine pu 21 (some 60) ?_; refine pu 22 (some 61) ?_
        refine done_ (done_of HT_.out (by kernel_rfl)) ?_
        try go_wp2
        go_meet
        case rel => exact ⟨_, (!t123), (by first | rfl | (simp; done) | (simp [*]; done)), H', ⟨by have := HJ1.out; first | omega | exact Nat.le_refl _⟩, ⟨by (with_reducible repeat (first | apply Kd.R_alloc | apply Kd.R_drewN | apply Kd.R_drew)); first | exact HO115.out | exact Kd.R_mono HO115.out (fun _ h_ => h_.2)⟩, ⟨by (with_reducible repeat (first | apply Kd.R_alloc | apply Kd.R_drewN | apply Kd.R_drew)); first | exact HO119.out | exact Kd.R_mono HO119.out (fun _ h_ => h_.2)⟩, ⟨by (with_reducible repeat (first | apply Kd.L_alloc | apply Kd.L_drewN | apply Kd.L_drew)); exact HO107.out⟩, ⟨by (with_reducible repeat (first | apply Kd.L_alloc | apply Kd.L_drewN | apply Kd.L_drew)); exact HO110.out⟩, ⟨by (with_reducible repeat (first | refine blk_drewN ?_ _ | refine blk_drew ?_ | refine blk_alloc ?_ _)); exact BK101.out⟩, ⟨by (with_reducible repeat (first | refine blk_drewN ?_ _ | refine blk_drew ?_ | refine blk_alloc ?_ _)); exact BK112.out⟩, ⟨by repeat (first | (with_reducible first | exact HB.out | apply below_alloc | apply pw_below_drewN | apply below_drew1 | refine below_set ?_ GE101.out | refine below_set ?_ GE112.out) | exact HB.out)⟩⟩
       ·rw [if_neg c33] at H
        have c33b0 : (t121 == t122) = false := beq_eq_false_iff_ne.mpr c33
        have c33b1 : (t121 != t122) = true := bne_iff_ne.mpr c33
        have H' := Aside0.mk H
        clear H
        try go_wp2
        have n0_ := Aside0.mk (Kd.L_drew HO107.out)
        have n1_ := Aside0.mk (Kd.L_drew HO110.out)
        have n2_ := Aside0.mk (Kd.R_drew HO115.out)
        have n3_ := Aside0.mk (Kd.R_drew HO119.out)
        have n4_ := Aside0.mk (blk_drew BK101.out)
        have n5_ := Aside0.mk (blk_drew BK112.out)
        have n6_ := Aside0.mk (below_drew1 HB.out)
        clear HO107
        clear HO110
        clear HO115
        clear HO119
        clear BK101
        clear BK112
        clear HB
        have HO107 := n0_
        have HO110 := n1_
        have HO115 := n2_
        have HO119 := n3_
        have BK101 := n4_
        have BK112 := n5_
        have HB := n6_
        clear n0_ n1_ n2_ n3_ n4_ n5_ n6_
        refine start_ (n := 23) (S := fun w' => w'.cell? ⟨gb112, 0, none⟩ = some (.int .u8 t104) ∧ w'.cell? ⟨gb112, 1, none⟩ = some (.slice Ao23 t105.length co23) ∧ w'.cell? ⟨gb112, 2, none⟩ = some (.slice Ao24 t108.length co24) ∧ w'.cell? ⟨gb112, 3, none⟩ = some (.int .i64 t111) ∧ w'.cell? ⟨gb101, 0, none⟩ = some (.int .u8 a0_0) ∧ w'.cell? ⟨gb101, 1, none⟩ = some (.slice A0_1 l0_1.length c0_1) ∧ w'.cell? ⟨gb101, 2, none⟩ = some (.slice A0_2 l0_2.length c0_2) ∧ w'.cell? ⟨gb101, 3, none⟩ = some (.int .i64 a0_3) ∧ Sem.run Try.prog (convert 27 9 v118) w' = .ok (.string (strOfNums t117)) w' ∧ Sem.run Try.prog (convert 27 9 v114) w' = .ok (.string (strOfNums t113)) w') (ds := []) #[false, false, false, false, false, false, false, false, false, false, false, false, false, false, false, false, false, false, false, false, false, false, false] (by kernel_rfl) rfl rfl ⟨(blk_cell BK112.out 0).trans rfl, (blk_cell BK112.out 1).trans rfl, (blk_cell BK112.out 2).trans rfl, (blk_cell BK112.out 3).trans rfl, (blk_cell BK101.out 0).trans rfl, (blk_cell BK101.out 1).trans rfl, (blk_cell BK101.out 2).trans rfl, (blk_cell BK101.out 3).trans rfl, (own_string (P := Try.prog) Try.underlying27 Try.underlying5 Try.underlying9 (Kd.own_of_R HO119.out)), (own_string (P := Try.prog) Try.underlying27 Try.underlying5 Try.underlying9 (Kd.own_of_R HO115.out))⟩ (fun hHeld => ?_); refine with_tabW vouchlaw21_CodeWrites.tab6 vouchlaw21_CodeWrites.bits6 (fun HT_ HW_ => ?_)
        generalize w28.drew = w40 at HO107 HO110 HO115 HO119 BK101 BK112 HB hHeld ⊢
        refine pu 0 (some 39) ?_; refine pu 2 (some 41) ?_; refine tk 1 (some 40) hHeld ?_; refine tk 3 (some 42) hHeld ?_; refine pu 4 (some 43) ?_; refine pu 5 (some 44) ?_; refine pu 6 (some 45) ?_; refine pu 7 (some 46) ?_; refine pu 8 (some 47) ?_; refine pu 9 (some 48) ?_; refine pu 10 (some 49) ?_; refine tk 11 (some 50) hHeld ?_; refine tk 13 (some 52) hHeld ?_
        refine on_ 12 (some 51) (fun K hK => ?_)
        refine goes_ Try.func13 (by kernel_rfl) rfl #[.agg #[.int .u8 t104, .slice Ao23 t105.length co23, .slice Ao24 t108.length co24, .int .i64 t111]] (by rfl) rfl rfl (by (try simp only [List.map_toArray, List.map_cons, List.map_nil]); first | done | rfl | (simp only [List.length_drop, List.length_take]; rfl)) ?_
        with_reducible refine (code_Check.calls kj1 t104 _ _ t105 _ _ t108 t111 t121 _ ?side1 ?side2 ?side3 ?side4 A31.out).mono ?_
        (case side1 => repeat (first | exact (Kd.L_reads' HO107.out).2.2 | (with_reducible refine Kd.C_alloc ?_ _) | (with_reducible refine Kd.C_drewN ?_ _) | (with_reducible refine Kd.C_drew ?_)))
        (case side2 => exact (Kd.L_reads' HO107.out).2.1)
        (case side3 => repeat (first | exact (Kd.L_reads' HO110.out).2.2 | (with_reducible refine Kd.C_alloc ?_ _) | (with_reducible refine Kd.C_drewN ?_ _) | (with_reducible refine Kd.C_drew ?_)))
        (case side4 => exact (Kd.L_reads' HO110.out).2.1)
        rintro e w42 ⟨rfl, hb⟩
        refine ⟨_, rfl, ?_⟩
        have n0_ := Aside0.mk (Kd.L_below (by (with_reducible repeat (first | apply Kd.L_alloc | apply Kd.L_drewN | apply Kd.L_drew)); exact HO107.out) hb)
        have n1_ := Aside0.mk (Kd.L_below (by (with_reducible repeat (first | apply Kd.L_alloc | apply Kd.L_drewN | apply Kd.L_drew)); exact HO110.out) hb)
        have n2_ := Aside0.mk (Kd.R_below (kr HO115) hb)
        have n3_ := Aside0.mk (Kd.R_below (kr HO119) hb)
        have n4_ := Aside0.mk (blk_below (g := gb101) (o := .cells #[.int .u8 a0_0, .slice A0_1 l0_1.length c0_1, .slice A0_2 l0_2.length c0_2, .int .i64 a0_3] 25 (0, 0)) (bk BK101) hb)
        have n5_ := Aside0.mk (blk_below (g := gb112) (o := .cells #[.int .u8 t104, .slice Ao23 t105.length co23, .slice Ao24 t108.length co24, .int .i64 t111] 25 (0, 0)) (bk BK112) hb)
        have n6_ := Aside0.mk (below_step (bl2 HB GE101 GE112) hb)
        clear HO107
        clear HO110
        clear HO115
        clear HO119
        clear BK101
        clear BK112
        clear HB
        have HO107 := n0_
        have HO110 := n1_
        have HO115 := n2_
        have HO119 := n3_
        have BK101 := n4_
        have BK112 := n5_
        have HB := n6_
        clear n0_ n1_ n2_ n3_ n4_ n5_ n6_
        (try clear hb)
        (try clear hb2)
        (try clear hk)
        (try clear hi)
        refine hK.out _ _ ⟨(blk_cell BK112.out 0).trans rfl, (blk_cell BK112.out 1).trans rfl, (blk_cell BK112.out 2).trans rfl, (blk_cell BK112.out 3).trans rfl, (blk_cell BK101.out 0).trans rfl, (blk_cell BK101.out 1).trans rfl, (blk_cell BK101.out 2).trans rfl, (blk_cell BK101.out 3).trans rfl, (own_string (P := Try.prog) Try.underlying27 Try.underlying5 Try.underlying9 (Kd.own_of_R HO119.out)), (own_string (P := Try.prog) Try.underlying27 Try.underlying5 Try.underlying9 (Kd.own_of_R HO115.out))⟩ (fun hHeld => ?_)
        clear hK K
        refine norm_ (a' := ?_) ?_ ?_
        rotate_left
        ·show Act.put _ (some 51) _ = _
         simp only [Act.put, List.setIfInBounds_toArray, List.set_cons_zero, List.set_cons_succ, i64_w, i32_w]
         rfl
        refine on_ 14 (some 53) (fun K hK => ?_)
        refine goes_ Try.func16 (by kernel_rfl) rfl #[.agg #[.int .u8 a0_0, .slice A0_1 l0_1.length c0_1, .slice A0_2 l0_2.length c0_2, .int .i64 a0_3]] (by rfl) rfl rfl (by (try simp only [List.map_toArray, List.map_cons, List.map_nil]); first | done | rfl | (simp only [List.length_drop, List.length_take]; rfl)) ?_
        with_reducible refine (vouchref21_Check.calls kj1 a0_0 _ _ l0_1 _ _ l0_2 a0_3 t122 _ ?side1 ?side2 ?side3 ?side4 A32.out).mono ?_
        (case side1 => repeat (first | exact (Kd.C_below HR0_1.out HB.out) | (with_reducible refine Kd.C_alloc ?_ _) | (with_reducible refine Kd.C_drewN ?_ _) | (with_reducible refine Kd.C_drew ?_)))
        (case side2 => exact HC0_1.out)
        (case side3 => repeat (first | exact (Kd.C_below HR0_2.out HB.out) | (with_reducible refine Kd.C_alloc ?_ _) | (with_reducible refine Kd.C_drewN ?_ _) | (with_reducible refine Kd.C_drew ?_)))
        (case side4 => exact HC0_2.out)
        rintro e w43 ⟨rfl, hb⟩
        refine ⟨_, rfl, ?_⟩
        have n0_ := Aside0.mk (Kd.L_below (by (with_reducible repeat (first | apply Kd.L_alloc | apply Kd.L_drewN | apply Kd.L_drew)); exact HO107.out) hb)
        have n1_ := Aside0.mk (Kd.L_below (by (with_reducible repeat (first | apply Kd.L_alloc | apply Kd.L_drewN | apply Kd.L_drew)); exact HO110.out) hb)
        have n2_ := Aside0.mk (Kd.R_below (kr HO115) hb)
        have n3_ := Aside0.mk (Kd.R_below (kr HO119) hb)
        have n4_ := Aside0.mk (blk_below (g := gb101) (o := .cells #[.int .u8 a0_0, .slice A0_1 l0_1.length c0_1, .slice A0_2 l0_2.length c0_2, .int .i64 a0_3] 25 (0, 0)) (bk BK101) hb)
        have n5_ := Aside0.mk (blk_below (g := gb112) (o := .cells #[.int .u8 t104, .slice Ao23 t105.length co23, .slice Ao24 t108.length co24, .int .i64 t111] 25 (0, 0)) (bk BK112) hb)
        have n6_ := Aside0.mk (below_step (bl2 HB GE101 GE112) hb)
        clear HO107
        clear HO110
        clear HO115
        clear HO119
        clear BK101
        clear BK112
        clear HB
        have HO107 := n0_
        have HO110 := n1_
        have HO115 := n2_
        have HO119 := n3_
        have BK101 := n4_
        have BK112 := n5_
        have HB := n6_
        clear n0_ n1_ n2_ n3_ n4_ n5_ n6_
        (try clear hb)
        (try clear hb2)
        (try clear hk)
        (try clear hi)
        refine hK.out _ _ ⟨(blk_cell BK112.out 0).trans rfl, (blk_cell BK112.out 1).trans rfl, (blk_cell BK112.out 2).trans rfl, (blk_cell BK112.out 3).trans rfl, (blk_cell BK101.out 0).trans rfl, (blk_cell BK101.out 1).trans rfl, (blk_cell BK101.out 2).trans rfl, (blk_cell BK101.out 3).trans rfl, (own_string (P := Try.prog) Try.underlying27 Try.underlying5 Try.underlying9 (Kd.own_of_R HO119.out)), (own_string (P := Try.prog) Try.underlying27 Try.underlying5 Try.underlying9 (Kd.own_of_R HO115.out))⟩ (fun hHeld => ?_)
        clear hK K
        refine norm_ (a' := ?_) ?_ ?_
        rotate_left
        ·show Act.put _ (some 53) _ = _
         simp only [Act.put, List.setIfInBounds_toArray, List.set_cons_zero, List.set_cons_succ, i64_w, i32_w]
         rfl
        refine pu 15 (some 54) ?_; refine pu 16 (some 55) ?_; refine pu 17 (some 56) ?_; refine pz 18 (some 57) ?_; refine pz 19 (some 58) ?_; refine pz 20 (some 59) ?_; refine pz 21 (some 60) ?_; refine pu 22 (some 61) ?_
        refine done_ (done_of HT_.out (by kernel_rfl)) ?_
        try go_wp2
        go_meet
        case rel => exact ⟨_, (true), (by first | rfl | (simp; done) | (simp [*]; done)), H', ⟨by have := HJ1.out; first | omega | exact Nat.le_refl _⟩, ⟨by (with_reducible repeat (first | apply Kd.R_alloc | apply Kd.R_drewN | apply Kd.R_drew)); first | exact HO115.out | exact Kd.R_mono HO115.out (fun _ h_ => h_.2)⟩, ⟨by (with_reducible repeat (first | apply Kd.R_alloc | apply Kd.R_drewN | apply Kd.R_drew)); first | exact HO119.out | exact Kd.R_mono HO119.out (fun _ h_ => h_.2)⟩, ⟨by (with_reducible repeat (first | apply Kd.L_alloc | apply Kd.L_drewN | apply Kd.L_drew)); exact HO107.out⟩, ⟨by (with_reducible repeat (first | apply Kd.L_alloc | apply Kd.L_drewN | apply Kd.L_drew)); exact HO110.out⟩, ⟨by (with_reducible repeat (first | refine blk_drewN ?_ _ | refine blk_drew ?_ | refine blk_alloc ?_ _)); exact BK101.out⟩, ⟨by (with_reducible repeat (first | refine blk_drewN ?_ _ | refine blk_drew ?_ | refine blk_alloc ?_ _)); exact BK112.out⟩, ⟨by repeat (first | (with_reducible first | exact HB.out | apply below_alloc | apply pw_below_drewN | apply below_drew1 | refine below_set ?_ GE101.out | refine below_set ?_ GE112.out) | exact HB.out)⟩⟩
      ·rw [if_neg c30] at H
       have c30b0 : (t120 == t116) = false := beq_eq_false_iff_ne.mpr c30
       have c30b1 : (t120 != t116) = true := bne_iff_ne.mpr c30
       have H' := Aside0.mk H
       clear H
       try go_wp2
       have n0_ := Aside0.mk (Kd.L_drew HO107.out)
       have n1_ := Aside0.mk (Kd.L_drew HO110.out)
       have n2_ := Aside0.mk (Kd.R_drew HO115.out)
       have n3_ := Aside0.mk (Kd.R_drew HO119.out)
       have n4_ := Aside0.mk (blk_drew BK101.out)
       have n5_ := Aside0.mk (blk_drew BK112.out)
       have n6_ := Aside0.mk (below_drew1 HB.out)
       clear HO107
       clear HO110
       clear HO115
       clear HO119
       clear BK101
       clear BK112
       clear HB
       have HO107 := n0_
       have HO110 := n1_
       have HO115 := n2_
       have HO119 := n3_
       have BK101 := n4_
       have BK112 := n5_
       have HB := n6_
       clear n0_ n1_ n2_ n3_ n4_ n5_ n6_
       refine start_ (n := 23) (S := fun w' => Sem.run Try.prog (convert 27 9 v118) w' = .ok (.string (strOfNums t117)) w' ∧ Sem.run Try.prog (convert 27 9 v114) w' = .ok (.string (strOfNums t113)) w') (ds := []) #[false, false, false, false, false, false, false, false, false, false, false, false, false, false, false, false, false, false, false, false, false, false, false] (by kernel_rfl) rfl rfl ⟨(own_string (P := Try.prog) Try.underlying27 Try.underlying5 Try.underlying9 (Kd.own_of_R HO119.out)), (own_string (P := Try.prog) Try.underlying27 Try.underlying5 Try.underlying9 (Kd.own_of_R HO115.out))⟩ (fun hHeld => ?_); refine with_tabW vouchlaw21_CodeWrites.tab6 vouchlaw21_CodeWrites.bits6 (fun HT_ HW_ => ?_)
       generalize w28.drew = w44 at HO107 HO110 HO115 HO119 BK101 BK112 HB hHeld ⊢
       refine pu 0 (some 39) ?_; refine pu 2 (some 41) ?_; refine tk 1 (some 40) hHeld ?_; refine tk 3 (some 42) hHeld ?_; refine pu 4 (some 43) ?_; refine pu 5 (some 44) ?_; refine pu 6 (some 45) ?_; refine pu 7 (some 46) ?_; refine pu 8 (some 47) ?_; refine pu 9 (some 48) ?_; refine pu 10 (some 49) ?_; refine pz 11 (some 50) ?_; refine pz 12 (some 51) ?_; refine pz 13 (some 52) ?_; refine pz 14 (some 53) ?_; refine pz 15 (some 54) ?_; refine pu 16 (some 55) ?_; refine pu 17 (some 56) ?_; refine pz 18 (some 57) ?_; refine pz 19 (some 58) ?_; refine pz 20 (some 59) ?_; refine pz 21 (some 60) ?_; refine pu 22 (some 61) ?_
       refine done_ (done_of HT_.out (by kernel_rfl)) ?_
       try go_wp2
       go_meet
       case rel => exact ⟨_, (true), (by first | rfl | (simp; done) | (simp [*]; done)), H', ⟨by have := HJ1.out; first | omega | exact Nat.le_refl _⟩, ⟨by (with_reducible repeat (first | apply Kd.R_alloc | apply Kd.R_drewN | apply Kd.R_drew)); first | exact HO115.out | exact Kd.R_mono HO115.out (fun _ h_ => h_.2)⟩, ⟨by (with_reducible repeat (first | apply Kd.R_alloc | apply Kd.R_drewN | apply Kd.R_drew)); first | exact HO119.out | exact Kd.R_mono HO119.out (fun _ h_ => h_.2)⟩, ⟨by (with_reducible repeat (first | apply Kd.L_alloc | apply Kd.L_drewN | apply Kd.L_drew)); exact HO107.out⟩, ⟨by (with_reducible repeat (first | apply Kd.L_alloc | apply Kd.L_drewN | apply Kd.L_drew)); exact HO110.out⟩, ⟨by (with_reducible repeat (first | refine blk_drewN ?_ _ | refine blk_drew ?_ | refine blk_alloc ?_ _)); exact BK101.out⟩, ⟨by (with_reducible repeat (first | refine blk_drewN ?_ _ | refine blk_drew ?_ | refine blk_alloc ?_ _)); exact BK112.out⟩, ⟨by repeat (first | (with_reducible first | exact HB.out | apply below_alloc | apply pw_below_drewN | apply below_drew1 | refine below_set ?_ GE101.out | refine below_set ?_ GE112.out) | exact HB.out)⟩⟩
     ·rw [if_neg c29] at H
      have c29b0 : ((strOfNums t117).toList == (strOfNums t113).toList) = false := beq_eq_false_iff_ne.mpr c29
      have c29b1 : ((strOfNums t117).toList != (strOfNums t113).toList) = true := bne_iff_ne.mpr c29
      (first | rw [c29b0] | (simp only [i64_w, i32_w]; rw [c29b0]) | skip)
      have H' := Aside0.mk H
      clear H
      try go_wp2
      have n0_ := Aside0.mk (Kd.L_drew HO107.out)
      have n1_ := Aside0.mk (Kd.L_drew HO110.out)
      have n2_ := Aside0.mk (Kd.R_drew HO115.out)
      have n3_ := Aside0.mk (Kd.R_drew HO119.out)
      have n4_ := Aside0.mk (blk_drew BK101.out)
      have n5_ := Aside0.mk (blk_drew BK112.out)
      have n6_ := Aside0.mk (below_drew1 HB.out)
      clear HO107
      clear HO110
      clear HO115
      clear HO119
      clear BK101
      clear BK112
      clear HB
      have HO107 := n0_
      have HO110 := n1_
      have HO115 := n2_
      have HO119 := n3_
      have BK101 := n4_
      have BK112 := n5_
      have HB := n6_
      clear n0_ n1_ n2_ n3_ n4_ n5_ n6_
      refine start_ (n := 23) (S := fun w' => Sem.run Try.prog (convert 27 9 v118) w' = .ok (.string (strOfNums t117)) w' ∧ Sem.run Try.prog (convert 27 9 v114) w' = .ok (.string (strOfNums t113)) w') (ds := []) #[false, false, false, false, false, false, false, false, false, false, false, false, false, false, false, false, false, false, false, false, false, false, false] (by kernel_rfl) rfl rfl ⟨(own_string (P := Try.prog) Try.underlying27 Try.underlying5 Try.underlying9 (Kd.own_of_R HO119.out)), (own_string (P := Try.prog) Try.underlying27 Try.underlying5 Try.underlying9 (Kd.own_of_R HO115.out))⟩ (fun hHeld => ?_); refine with_tabW vouchlaw21_CodeWrites.tab6 vouchlaw21_CodeWrites.bits6 (fun HT_ HW_ => ?_)
      generalize w28.drew = w46 at HO107 HO110 HO115 HO119 BK101 BK112 HB hHeld ⊢
      refine pu 0 (some 39) ?_; refine pu 2 (some 41) ?_; refine tk 1 (some 40) hHeld ?_; refine tk 3 (some 42) hHeld ?_; refine pu 4 (some 43) ?_; refine pu 5 (some 44) ?_; refine pz 6 (some 45) ?_; refine pz 7 (some 46) ?_; refine pz 8 (some 47) ?_; refine pu 9 (some 48) ?_; refine pu 10 (some 49) ?_; refine pz 11 (some 50) ?_; refine pz 12 (some 51) ?_; refine pz 13 (some 52) ?_; refine pz 14 (some 53) ?_; refine pz 15 (some 54) ?_; refine pu 16 (some 55) ?_; refine pu 17 (some 56) ?_; refine pz 18 (some 57) ?_; refine pz 19 (some 58) ?_; refine pz 20 (some 59) ?_; refine pz 21 (some 60) ?_; refine pu 22 (some 61) ?_
      refine done_ (done_of HT_.out (by kernel_rfl)) ?_
      try go_wp2
      go_meet
      case rel => exact ⟨_, (true), (by first | rfl | (simp; done) | (simp [*]; done)), H', ⟨by have := HJ1.out; first | omega | exact Nat.le_refl _⟩, ⟨by (with_reducible repeat (first | apply Kd.R_alloc | apply Kd.R_drewN | apply Kd.R_drew)); first | exact HO115.out | exact Kd.R_mono HO115.out (fun _ h_ => h_.2)⟩, ⟨by (with_reducible repeat (first | apply Kd.R_alloc | apply Kd.R_drewN | apply Kd.R_drew)); first | exact HO119.out | exact Kd.R_mono HO119.out (fun _ h_ => h_.2)⟩, ⟨by (with_reducible repeat (first | apply Kd.L_alloc | apply Kd.L_drewN | apply Kd.L_drew)); exact HO107.out⟩, ⟨by (with_reducible repeat (first | apply Kd.L_alloc | apply Kd.L_drewN | apply Kd.L_drew)); exact HO110.out⟩, ⟨by (with_reducible repeat (first | refine blk_drewN ?_ _ | refine blk_drew ?_ | refine blk_alloc ?_ _)); exact BK101.out⟩, ⟨by (with_reducible repeat (first | refine blk_drewN ?_ _ | refine blk_drew ?_ | refine blk_alloc ?_ _)); exact BK112.out⟩, ⟨by repeat (first | (with_reducible first | exact HB.out | apply below_alloc | apply pw_below_drewN | apply below_drew1 | refine below_set ?_ GE101.out | refine below_set ?_ GE112.out) | exact HB.out)⟩⟩
    case rest =>
     clear HC17
     try clear c1
     try clear c2
     try clear p2
     try clear c3
     try clear c13
     try clear c16
     try clear c29
     try clear c29b0
     try clear c29b1
     try clear c30
     try clear c30b0
     try clear c30b1
     obtain ⟨kq, x61_16, rfl, HA, HJ16, HO_4, HO_6, HO_113001, HO_113002, BK101, BK112, HB⟩ := hcut
     cases kq with
     | zero => exact absurd HA.out (by simp [vouchlaw21_CodeWrites.j1])
     | succ kj16 =>
      have H := HA.out
      clear HA
      simp only [vouchlaw21_CodeWrites.j1] at H
      by_cases c48 : x61_16 = true
      ·subst c48
       have H1 : (some false) = some r := by rw [if_pos rfl] at H; exact H
       clear H
       have H := H1
       clear H1
       exact absurd (Option.some.inj H) (by rw [hr_]; decide)
      ·replace c48 := Bool.eq_false_iff.mpr c48
       subst c48
       have H1 : (vouchlaw21_CodeWrites.l0 kj16 t113 t117 0 a0_0 l0_1 l0_2 a0_3 t104 t105 t108 t111) = some r := by rw [if_neg (show ¬ (false = true) by decide)] at H; exact H
       clear H
       have H := H1
       clear H1
       have H' := Aside0.mk H
       clear H
       go_wp2
       go_loopg [8] kj16 (fun kq v8 w' => ∃ (x6_3 : List Int) (x8_3 : Int), v8 = .int .i64 x8_3 ∧ Aside0 (vouchlaw21_CodeWrites.l0 kq t113 x6_3 x8_3 a0_0 l0_1 l0_2 a0_3 t104 t105 t108 t111 = some r) ∧ Aside0 (kq ≤ kj16) ∧ Aside0 (Kd.R (Kd.int .u8) 5 w' w.heap.size (fun k_ => some k_ ≠ (v118 : Value).ownBlock) v114 t113) ∧ Aside0 (Kd.R (Kd.int .u8) 5 w' w.heap.size (fun k_ => some k_ ≠ (v114 : Value).ownBlock) v118 x6_3) ∧ Aside0 (Kd.L Kd.string 9 w' w.heap.size (fun _ => True) (.slice Ao23 t105.length co23) t105) ∧ Aside0 (Kd.L k41 41 w' w.heap.size (fun _ => True) (.slice Ao24 t108.length co24) t108) ∧ Aside0 (w'.heap[gb101]? = some (.cells #[.int .u8 a0_0, (.slice A0_1 l0_1.length c0_1), (.slice A0_2 l0_2.length c0_2), .int .i64 a0_3] 25 (0, 0))) ∧ Aside0 (w'.heap[gb112]? = some (.cells #[.int .u8 t104, (.slice Ao23 t105.length co23), (.slice Ao24 t108.length co24), .int .i64 t111] 25 (0, 0))) ∧ Aside0 (Below w.heap.size w w'))
       case atStart => exact ⟨(t117), (0), (by first | rfl | (simp; done) | (simp [*]; done)), H', ⟨Nat.le_refl _⟩, ⟨by (with_reducible repeat (first | apply Kd.R_alloc | apply Kd.R_drewN | apply Kd.R_drew)); exact HO_4.out⟩, ⟨by (with_reducible repeat (first | apply Kd.R_alloc | apply Kd.R_drewN | apply Kd.R_drew)); exact HO_6.out⟩, ⟨by (with_reducible repeat (first | apply Kd.L_alloc | apply Kd.L_drewN | apply Kd.L_drew)); exact HO_113001.out⟩, ⟨by (with_reducible repeat (first | apply Kd.L_alloc | apply Kd.L_drewN | apply Kd.L_drew)); exact HO_113002.out⟩, ⟨by (with_reducible repeat (first | refine blk_drewN ?_ _ | refine blk_drew ?_ | refine blk_alloc ?_ _)); exact BK101.out⟩, ⟨by (with_reducible repeat (first | refine blk_drewN ?_ _ | refine blk_drew ?_ | refine blk_alloc ?_ _)); exact BK112.out⟩, ⟨by repeat (first | (with_reducible first | exact HB.out | apply below_alloc | apply pw_below_drewN | apply below_drew1 | refine below_set ?_ GE101.out | refine below_set ?_ GE112.out) | exact HB.out)⟩⟩
       case round =>
        clear H'
        try clear c1
        try clear c2
        try clear p2
        try clear c3
        try clear c4
        try clear c13
        try clear c16
        try clear c29
        try clear c29b0
        try clear c29b1
        try clear c30
        try clear c30b0
        try clear c30b1
        try clear c48
        try clear p2
        obtain ⟨x6_3, x8_3, rfl, HA, HK3, HO_4, HO_6, HO_113001, HO_113002, BK101, BK112, HB⟩ := hrel
        cases gk with
        | zero => exact absurd HA.out (by simp [vouchlaw21_CodeWrites.l0])
        | succ k3 =>
         have H := HA.out
         clear HA
         simp only [vouchlaw21_CodeWrites.l0] at H
         by_cases c49 : x8_3 < (x6_3.length : Int)
         ·rw [if_pos c49] at H
          have c49b0 : decide (x8_3 < (x6_3.length : Int)) = true := decide_eq_true c49
          clear c49
          by_cases c50 : 0 ≤ x8_3
          ·rw [if_pos c50] at H
           have c50b0 : decide (0 ≤ x8_3) = true := decide_eq_true c50
           clear c50
           obtain ⟨y124, hy124⟩ : ∃ y_ : List Int, y_ = (x6_3.set (x8_3 : Int).toNat 99) := ⟨_, rfl⟩
           replace H : (vouchlaw21_CodeWrites.l0 k3 t113 y124 (wrap64 (x8_3 + 1)) a0_0 l0_1 l0_2 a0_3 t104 t105 t108 t111) = some r := by first | (rw [hy124]; with_reducible exact H) | (have H2_ := (Option.bind_some _ _).symm.trans H; rw [hy124]; with_reducible exact H2_) | (have H2_ := (Option.bind_some _ _).symm.trans H; with_reducible exact H2_) | with_reducible exact H | (rw [hy124]; exact H) | exact H
           have Ny124 := Aside0.mk hy124
           clear hy124
           have H' := Aside0.mk H
           clear H
           obtain ⟨Ao52, co52, eo52⟩ := Kd.R_slice HO_6.out
           subst eo52
           have p51 : 0 ≤ (x8_3 : Int) := of_decide_eq_true (by first | (with_reducible assumption) | assumption)
           have q51 : (x8_3 : Int) < ((x6_3.length : Int) : Int) := of_decide_eq_true (by first | (with_reducible assumption) | assumption)
           obtain ⟨go51, co51, eo51, gb51, gl51, cl51, HG51⟩ := Kd.R_form HO_6.out (by omega)
           (first | cases eo51 | (injection eo51 with ea_ en_ ec_; (first | subst ea_ | (injection ea_ with ea_; subst ea_)); subst ec_; clear en_))
           have GB51 := Aside0.mk gb51
           have GG51 := Aside0.mk HG51
           clear gb51 gl51 HG51
           obtain ⟨hx51_0, hf51_0⟩ := Kd.R_celln 0 HO_6.out (x8_3 : Int) p51 q51
           replace p51 := eq_true p51
           replace q51 := eq_true q51
           have HP53 := Kd.R_putg HO_6.out (x8_3 : Int) 99
           go_wp2_with (first | ((with_reducible refine gate_store (t := 5) (p := 70) rfl ?_); refine store_event (t := 5) (p := 70) (v := ?vo_w54) (w1 := (wr.setCell ⟨go51, (x8_3 : Int).toNat, none⟩ (.int .u8 99))) ?hg ?ho ?hn ?hr ?_; (case ho => rfl); (case hg => rfl); (case hn => rfl); (case hr => first | (go_simp; done) | (go_simp; rfl)); intro w54 hw; have hg : wr.grownBy w54 (some go51) := (by rw [hw]; exact HP53.2); have hp_ : Kd.R (Kd.int .u8) 5 w54 w.heap.size (fun k_ => some k_ ≠ (v114 : Value).ownBlock) (.slice (some ⟨go51, 0, none⟩) x6_3.length co52) y124 := (by rw [hw, Ny124.out]; exact HP53.1); clear HP53; have n0_ := Aside0.mk (Kd.R_after (v := (.slice (some ⟨go51, 0, none⟩) x6_3.length co52)) (v1 := (.slice (some ⟨go51, 0, none⟩) x6_3.length co52)) (ok := (fun _ => True)) (by (with_reducible repeat (first | apply Kd.R_alloc | apply Kd.R_drewN | apply Kd.R_drew)); exact Kd.R_mono HO_4.out (fun _ hk => ⟨trivial, hk⟩)) hg (.inl rfl)); have n1_ := Aside0.mk (hp_); have n2_ := Aside0.mk (Kd.L_over' (v := (.slice (some ⟨go51, 0, none⟩) x6_3.length co52)) (by (with_reducible repeat (first | apply Kd.L_alloc | apply Kd.L_drewN | apply Kd.L_drew)); exact HO_113001.out) (Kd.R_typed HO_6.out) (by decide) hg); have n3_ := Aside0.mk (Kd.L_over' (v := (.slice (some ⟨go51, 0, none⟩) x6_3.length co52)) (by (with_reducible repeat (first | apply Kd.L_alloc | apply Kd.L_drewN | apply Kd.L_drew)); exact HO_113002.out) (Kd.R_typed HO_6.out) (by decide) hg); have n4_ := Aside0.mk (blk_grown (g := gb101) (o := .cells #[.int .u8 a0_0, .slice A0_1 l0_1.length c0_1, .slice A0_2 l0_2.length c0_2, .int .i64 a0_3] 25 (0, 0)) (bk BK101) hg (Kd.R_ne HO_6.out BK101.out (by decide))); have n5_ := Aside0.mk (blk_grown (g := gb112) (o := .cells #[.int .u8 t104, .slice Ao23 t105.length co23, .slice Ao24 t108.length co24, .int .i64 t111] 25 (0, 0)) (bk BK112) hg (Kd.R_ne HO_6.out BK112.out (by decide))); have n6_ := Aside0.mk ((by rw [hw]; exact below_set (HB.out) GB51.out : Below w.heap.size w w54)); clear HO_4; clear HO_6; clear HO_113001; clear HO_113002; clear BK101; clear BK112; clear HB; have HO_4 := n0_; have HO_6 := n1_; have HO_113001 := n2_; have HO_113002 := n3_; have BK101 := n4_; have BK112 := n5_; have HB := n6_; clear n0_ n1_ n2_ n3_ n4_ n5_ n6_; clear hg hw hp_))
           go_roundg k3
           case measure => have := HJ1.out; have := HJ16.out; have := HK3.out; omega
           case rel => exact ⟨(y124), (wrap64 (x8_3 + 1)), (by first | rfl | (simp; done) | (simp [*]; done)), H', ⟨by have := HJ1.out; have := HJ16.out; have := HK3.out; omega⟩, ⟨by (with_reducible repeat (first | apply Kd.R_alloc | apply Kd.R_drewN | apply Kd.R_drew)); exact Kd.R_mono HO_4.out (fun _ hk => hk.2)⟩, ⟨by (with_reducible repeat (first | apply Kd.R_alloc | apply Kd.R_drewN | apply Kd.R_drew)); exact HO_6.out⟩, ⟨by (with_reducible repeat (first | apply Kd.L_alloc | apply Kd.L_drewN | apply Kd.L_drew)); exact HO_113001.out⟩, ⟨by (with_reducible repeat (first | apply Kd.L_alloc | apply Kd.L_drewN | apply Kd.L_drew)); exact HO_113002.out⟩, ⟨by (with_reducible repeat (first | refine blk_drewN ?_ _ | refine blk_drew ?_ | refine blk_alloc ?_ _)); exact BK101.out⟩, ⟨by (with_reducible repeat (first | refine blk_drewN ?_ _ | refine blk_drew ?_ | refine blk_alloc ?_ _)); exact BK112.out⟩, ⟨by repeat (first | (with_reducible first | exact HB.out | apply below_alloc | apply pw_below_drewN | apply below_drew1 | refine below_set ?_ GE101.out | refine below_set ?_ GE112.out) | exact HB.out)⟩⟩
          ·rw [if_neg c50] at H
           exact absurd H (by simp)
         ·rw [if_neg c49] at H
          have c49b0 : decide (x8_3 < (x6_3.length : Int)) = false := decide_eq_false c49
          clear c49
          replace H := Option.bind_eq_some_iff.mp H
          obtain ⟨⟨t125, t128⟩, A550, H⟩ := H
          replace H : (if (strOfNums t125).toList = (strOfNums t113).toList then ((vouchkit_KeptFull.f k3 t104 t105 t108 t111 a0_0 l0_1 l0_2 a0_3).bind fun t129 => (if t129 = true then ((vouchlaw21_works.f k3).bind fun t130 => (some t130)) else (some false))) else (some false)) = some r := H
          have A55 := Aside0.mk A550
          clear A550
          by_cases c56 : (strOfNums t125).toList = (strOfNums t113).toList
          ·rw [if_pos c56] at H
           have c56b0 : ((strOfNums t125).toList == (strOfNums t113).toList) = true := beq_iff_eq.mpr c56
           have c56b1 : ((strOfNums t125).toList != (strOfNums t113).toList) = false := bne_eq_false_iff_eq.mpr c56
           clear c56
           replace H := Option.bind_eq_some_iff.mp H
           obtain ⟨t129, A570, H⟩ := H
           replace H : (if t129 = true then ((vouchlaw21_works.f k3).bind fun t130 => (some t130)) else (some false)) = some r := H
           have A57 := Aside0.mk A570
           clear A570
           by_cases c58 : t129 = true
           ·subst c58
            have H1 : ((vouchlaw21_works.f k3).bind fun t130 => (some t130)) = some r := by rw [if_pos rfl] at H; exact H
            clear H
            have H := H1
            clear H1
            replace H := Option.bind_eq_some_iff.mp H
            obtain ⟨t130, A590, H⟩ := H
            replace H : (some t130) = some r := H
            have A59 := Aside0.mk A590
            clear A590
            obtain rfl := Option.some.inj H
            obtain ⟨Ao60, co60, eo60⟩ := Kd.R_slice HO_6.out
            subst eo60
            have hnb61 := NB112_101.out
            have hnc61 := NB101_112.out
            have hcz62_0 : wr.cell? ⟨gb112, 0, none⟩ = some (.int .u8 t104) := (blk_cell BK112.out 0).trans rfl
            have hcz62_1 : wr.cell? ⟨gb112, 1, none⟩ = some (.slice Ao23 t105.length co23) := (blk_cell BK112.out 1).trans rfl
            have hcz62_2 : wr.cell? ⟨gb112, 2, none⟩ = some (.slice Ao24 t108.length co24) := (blk_cell BK112.out 2).trans rfl
            have hcz62_3 : wr.cell? ⟨gb112, 3, none⟩ = some (.int .i64 t111) := (blk_cell BK112.out 3).trans rfl
            have hfz62_0 := blk_frozen BK112.out 0
            have hfz62_1 := blk_frozen BK112.out 1
            have hfz62_2 := blk_frozen BK112.out 2
            have hfz62_3 := blk_frozen BK112.out 3
            go_wp2_with (first | ((with_reducible refine gate_callee (f := 11) rfl ?_); refine goesL_ (some 73) rfl rfl Try.func11 (by kernel_rfl) rfl #[.agg #[.int .u8 t104, .slice Ao23 t105.length co23, .slice Ao24 t108.length co24, .int .i64 t111]] rfl (by (try simp only [List.map_toArray, List.map_cons, List.map_nil]); first | done | rfl | (simp only [List.length_drop, List.length_take]; rfl)) ?_; (with_reducible refine (code_Encode.calls k3 t104 _ _ t105 _ _ t108 t111 t125 t128 _ ?side1 ?side2 ?side3 ?side4 A55.out).mono ?_); (case side1 => repeat (first | exact (Kd.L_reads' HO_113001.out).2.2 | (with_reducible refine Kd.C_alloc ?_ _) | (with_reducible refine Kd.C_drewN ?_ _) | (with_reducible refine Kd.C_drew ?_))); (case side2 => exact (Kd.L_reads' HO_113001.out).2.1); (case side3 => repeat (first | exact (Kd.L_reads' HO_113002.out).2.2 | (with_reducible refine Kd.C_alloc ?_ _) | (with_reducible refine Kd.C_drewN ?_ _) | (with_reducible refine Kd.C_drew ?_))); (case side4 => exact (Kd.L_reads' HO_113002.out).2.1); rintro e w63 ⟨v126, rfl, ho0, hb⟩; refine ⟨_, rfl, ?_⟩; have n0_ := Aside0.mk (Kd.R_elder' (kr HO_4) (Kd.R_base ho0) hb); have n1_ := Aside0.mk (Kd.R_elder' (kr HO_6) (Kd.R_base ho0) hb); have n2_ := Aside0.mk (Kd.L_below (by (with_reducible repeat (first | apply Kd.L_alloc | apply Kd.L_drewN | apply Kd.L_drew)); exact HO_113001.out) hb); have n3_ := Aside0.mk (Kd.L_below (by (with_reducible repeat (first | apply Kd.L_alloc | apply Kd.L_drewN | apply Kd.L_drew)); exact HO_113002.out) hb); have n4_ := Aside0.mk (Kd.R_lower (Kd.R_new' (Kd.R_new' ho0 (Kd.R_lt (kr HO_4))) (Kd.R_lt (kr HO_6))) (below_size (bl2 HB GE101 GE112))); have n5_ := Aside0.mk (blk_below (g := gb101) (o := .cells #[.int .u8 a0_0, .slice A0_1 l0_1.length c0_1, .slice A0_2 l0_2.length c0_2, .int .i64 a0_3] 25 (0, 0)) (bk BK101) hb); have n6_ := Aside0.mk (blk_below (g := gb112) (o := .cells #[.int .u8 t104, .slice Ao23 t105.length co23, .slice Ao24 t108.length co24, .int .i64 t111] 25 (0, 0)) (bk BK112) hb); have n7_ := Aside0.mk (below_step (bl2 HB GE101 GE112) hb); clear HO_4; clear HO_6; clear HO_113001; clear HO_113002; clear BK101; clear BK112; clear HB; have HO_4 := n0_; have HO_6 := n1_; have HO_113001 := n2_; have HO_113002 := n3_; have HO127 := n4_; have BK101 := n5_; have BK112 := n6_; have HB := n7_; clear n0_ n1_ n2_ n3_ n4_ n5_ n6_ n7_; (try clear hb); (try clear hb2); (try clear hk); (try clear hi); (try clear ho0); have hcv64 := own_string (P := Try.prog) Try.underlying27 Try.underlying5 Try.underlying9 (Kd.own_of_R HO127.out); have hcv65 := own_string (P := Try.prog) Try.underlying27 Try.underlying5 Try.underlying9 (Kd.own_of_R HO_4.out); have hcz66_0 : w63.cell? ⟨gb112, 0, none⟩ = some (.int .u8 t104) := (blk_cell BK112.out 0).trans rfl; have hcz66_1 : w63.cell? ⟨gb112, 1, none⟩ = some (.slice Ao23 t105.length co23) := (blk_cell BK112.out 1).trans rfl; have hcz66_2 : w63.cell? ⟨gb112, 2, none⟩ = some (.slice Ao24 t108.length co24) := (blk_cell BK112.out 2).trans rfl; have hcz66_3 : w63.cell? ⟨gb112, 3, none⟩ = some (.int .i64 t111) := (blk_cell BK112.out 3).trans rfl; have hfz66_0 := blk_frozen BK112.out 0; have hfz66_1 := blk_frozen BK112.out 1; have hfz66_2 := blk_frozen BK112.out 2; have hfz66_3 := blk_frozen BK112.out 3; have hcz67_0 : w63.cell? ⟨gb101, 0, none⟩ = some (.int .u8 a0_0) := (blk_cell BK101.out 0).trans rfl; have hcz67_1 : w63.cell? ⟨gb101, 1, none⟩ = some (.slice A0_1 l0_1.length c0_1) := (blk_cell BK101.out 1).trans rfl; have hcz67_2 : w63.cell? ⟨gb101, 2, none⟩ = some (.slice A0_2 l0_2.length c0_2) := (blk_cell BK101.out 2).trans rfl; have hcz67_3 : w63.cell? ⟨gb101, 3, none⟩ = some (.int .i64 a0_3) := (blk_cell BK101.out 3).trans rfl; have hfz67_0 := blk_frozen BK101.out 0; have hfz67_1 := blk_frozen BK101.out 1; have hfz67_2 := blk_frozen BK101.out 2; have hfz67_3 := blk_frozen BK101.out 3) | (go_at_call 17; (with_reducible refine (vouchkit_KeptFull.calls k3 t104 _ _ t105 _ _ t108 t111 a0_0 _ _ l0_1 _ _ l0_2 a0_3 true _ ?side1 ?side2 ?side3 ?side4 ?side5 ?side6 ?side7 ?side8 A57.out).mono ?_); (case side1 => repeat (first | exact (Kd.L_full' HO_113001.out).2 | (with_reducible refine Kd.C_alloc ?_ _) | (with_reducible refine Kd.C_drewN ?_ _) | (with_reducible refine Kd.C_drew ?_))); (case side2 => exact (Kd.L_full' HO_113001.out).1); (case side3 => repeat (first | exact (Kd.L_full' HO_113002.out).2 | (with_reducible refine Kd.C_alloc ?_ _) | (with_reducible refine Kd.C_drewN ?_ _) | (with_reducible refine Kd.C_drew ?_))); (case side4 => exact (Kd.L_full' HO_113002.out).1); (case side5 => repeat (first | exact (Kd.C_below HR0_1.out HB.out) | (with_reducible refine Kd.C_alloc ?_ _) | (with_reducible refine Kd.C_drewN ?_ _) | (with_reducible refine Kd.C_drew ?_))); (case side6 => exact HC0_1.out); (case side7 => repeat (first | exact (Kd.C_below HR0_2.out HB.out) | (with_reducible refine Kd.C_alloc ?_ _) | (with_reducible refine Kd.C_drewN ?_ _) | (with_reducible refine Kd.C_drew ?_))); (case side8 => exact HC0_2.out); rintro e w68 ⟨rfl, hb⟩; have n0_ := Aside0.mk (Kd.R_below (kr HO_4) hb); have n1_ := Aside0.mk (Kd.R_below (kr HO_6) hb); have n2_ := Aside0.mk (Kd.L_below (by (with_reducible repeat (first | apply Kd.L_alloc | apply Kd.L_drewN | apply Kd.L_drew)); exact HO_113001.out) hb); have n3_ := Aside0.mk (Kd.L_below (by (with_reducible repeat (first | apply Kd.L_alloc | apply Kd.L_drewN | apply Kd.L_drew)); exact HO_113002.out) hb); have n4_ := Aside0.mk (Kd.R_below (kr HO127) hb); have n5_ := Aside0.mk (blk_below (g := gb101) (o := .cells #[.int .u8 a0_0, .slice A0_1 l0_1.length c0_1, .slice A0_2 l0_2.length c0_2, .int .i64 a0_3] 25 (0, 0)) (bk BK101) hb); have n6_ := Aside0.mk (blk_below (g := gb112) (o := .cells #[.int .u8 t104, .slice Ao23 t105.length co23, .slice Ao24 t108.length co24, .int .i64 t111] 25 (0, 0)) (bk BK112) hb); have n7_ := Aside0.mk (below_step (bl2 HB GE101 GE112) hb); clear HO_4; clear HO_6; clear HO_113001; clear HO_113002; clear HO127; clear BK101; clear BK112; clear HB; have HO_4 := n0_; have HO_6 := n1_; have HO_113001 := n2_; have HO_113002 := n3_; have HO127 := n4_; have BK101 := n5_; have BK112 := n6_; have HB := n7_; clear n0_ n1_ n2_ n3_ n4_ n5_ n6_ n7_; (try clear hb); (try clear hb2); (try clear hk); (try clear hi)) | (go_at_call 10; (with_reducible refine (vouchlaw21_works.calls k3  t130 _ A59.out).mono ?_); rintro e w69 ⟨rfl, hb⟩; have n0_ := Aside0.mk (Kd.R_below (kr HO_4) hb); have n1_ := Aside0.mk (Kd.R_below (kr HO_6) hb); have n2_ := Aside0.mk (Kd.L_below (by (with_reducible repeat (first | apply Kd.L_alloc | apply Kd.L_drewN | apply Kd.L_drew)); exact HO_113001.out) hb); have n3_ := Aside0.mk (Kd.L_below (by (with_reducible repeat (first | apply Kd.L_alloc | apply Kd.L_drewN | apply Kd.L_drew)); exact HO_113002.out) hb); have n4_ := Aside0.mk (Kd.R_below (kr HO127) hb); have n5_ := Aside0.mk (blk_below (g := gb101) (o := .cells #[.int .u8 a0_0, .slice A0_1 l0_1.length c0_1, .slice A0_2 l0_2.length c0_2, .int .i64 a0_3] 25 (0, 0)) (bk BK101) hb); have n6_ := Aside0.mk (blk_below (g := gb112) (o := .cells #[.int .u8 t104, .slice Ao23 t105.length co23, .slice Ao24 t108.length co24, .int .i64 t111] 25 (0, 0)) (bk BK112) hb); have n7_ := Aside0.mk (below_step (bl2 HB GE101 GE112) hb); clear HO_4; clear HO_6; clear HO_113001; clear HO_113002; clear HO127; clear BK101; clear BK112; clear HB; have HO_4 := n0_; have HO_6 := n1_; have HO_113001 := n2_; have HO_113002 := n3_; have HO127 := n4_; have BK101 := n5_; have BK112 := n6_; have HB := n7_; clear n0_ n1_ n2_ n3_ n4_ n5_ n6_ n7_; (try clear hb); (try clear hb2); (try clear hk); (try clear hi)))
            go_ret
            exact ⟨by first | rfl | (simp [errW_none, errW_some] <;> rfl) | (simp [*, errW_none, errW_some] <;> rfl), by repeat (first | (with_reducible first | exact HB.out | apply below_alloc | apply pw_below_drewN | apply below_drew1 | refine below_set ?_ GE101.out | refine below_set ?_ GE112.out) | exact HB.out)⟩
           ·replace c58 := Bool.eq_false_iff.mpr c58
            subst c58
            have H1 : (some false) = some r := by rw [if_neg (show ¬ (false = true) by decide)] at H; exact H
            clear H
            have H := H1
            clear H1
            exact absurd (Option.some.inj H) (by rw [hr_]; decide)
          ·rw [if_neg c56] at H
           have c56b0 : ((strOfNums t125).toList == (strOfNums t113).toList) = false := beq_eq_false_iff_ne.mpr c56
           have c56b1 : ((strOfNums t125).toList != (strOfNums t113).toList) = true := bne_iff_ne.mpr c56
           exact absurd (Option.some.inj H) (by rw [hr_]; decide)

end Go.Proofs.Ytmhmappdohddeaa.H
