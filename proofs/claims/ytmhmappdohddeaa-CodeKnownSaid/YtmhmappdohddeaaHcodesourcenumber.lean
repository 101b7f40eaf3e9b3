-- WRITTEN BY A PROGRAM OF THIS SESSION (hprint.py, compress.py), out of the translation. Lean checks it.
import Derived.Test.YtmhmappdohddeaaHx0
import Derived.Test.YtmhmappdohddeaaHcodesourcefail
import Derived.Test.YtmhmappdohddeaaHoctetN
namespace Go.Proofs.Ytmhmappdohddeaa.H
open Go.RowKit Go.Proofs.YtmhmappdohddeaaW.PrintWords Go.Proofs.YtmhmappdohddeaaW.PrintLast Go.Proofs.YtmhmappdohddeaaW.PrintMore
attribute [local go_sem] max2_int min2_int max_two min_two max_three min_three max_four min_four   -- for this text's walks alone
set_option linter.unusedVariables false
set_option linter.unusedSimpArgs false

/-! ### code_source_number: function 46 -/
mutual
def code_source_number.l0 : Nat → Int → Int → Int → Int → List Int → Int → Int → Int → Option (Int × Int × Int × Int)
 | 0, _, _, _, _, _, _, _, _ => none
 | k + 1, x1, x5, x6, x7, x1000, x1001, x1002, x1003 => if x1002 = 0 then ((octetN.f x1000 x1001 x1002 x1003).bind fun bt101 => (if bt101.2.2.1 = 0 then (if 0 ≤ x7 then (if x7 ≤ 64 then (if bt101.1 < 128 then (if (Go.bits .or .u64 x6 (IntKind.u64.wrap ((IntKind.u64.wrap (Go.bits .and .u8 bt101.1 127)) * 2 ^ x7.toNat))) > 2147483647 then (code_source_number.j1 k x1 x5 (Go.bits .or .u64 x6 (IntKind.u64.wrap ((IntKind.u64.wrap (Go.bits .and .u8 bt101.1 127)) * 2 ^ x7.toNat))) true x1000 bt101.2.1 bt101.2.2.1 bt101.2.2.2) else (if x7 > 0 then (code_source_number.j1 k x1 x5 (Go.bits .or .u64 x6 (IntKind.u64.wrap ((IntKind.u64.wrap (Go.bits .and .u8 bt101.1 127)) * 2 ^ x7.toNat))) (bt101.1 == 0) x1000 bt101.2.1 bt101.2.2.1 bt101.2.2.2) else (code_source_number.j1 k x1 x5 (Go.bits .or .u64 x6 (IntKind.u64.wrap ((IntKind.u64.wrap (Go.bits .and .u8 bt101.1 127)) * 2 ^ x7.toNat))) false x1000 bt101.2.1 bt101.2.2.1 bt101.2.2.2))) else (if x7 = 28 then ((code_source_fail.f x1000 bt101.2.1 bt101.2.2.1 bt101.2.2.2 210 x5).bind fun bt111 => (code_source_number.l0 k x1 x5 (Go.bits .or .u64 x6 (IntKind.u64.wrap ((IntKind.u64.wrap (Go.bits .and .u8 bt101.1 127)) * 2 ^ x7.toNat))) (wrap64 (x7 + 7)) x1000 bt111.1 bt111.2.1 bt111.2.2)) else (code_source_number.l0 k x1 x5 (Go.bits .or .u64 x6 (IntKind.u64.wrap ((IntKind.u64.wrap (Go.bits .and .u8 bt101.1 127)) * 2 ^ x7.toNat))) (wrap64 (x7 + 7)) x1000 bt101.2.1 bt101.2.2.1 bt101.2.2.2))) else (none)) else (none)) else (some (0, bt101.2.1, bt101.2.2.1, bt101.2.2.2)))) else (some (0, x1001, x1002, x1003))
def code_source_number.j1 : Nat → Int → Int → Int → Bool → List Int → Int → Int → Int → Option (Int × Int × Int × Int)
 | 0, _, _, _, _, _, _, _, _ => none
 | k + 1, x1, x5, x6, x45, x1000, x1001, x1002, x1003 => if x45 = true then ((code_source_fail.f x1000 x1001 x1002 x1003 210 x5).bind fun bt105 => (if bt105.2.1 = 0 then (some (wrap64 (x6), bt105.1, bt105.2.1, bt105.2.2)) else (some (0, bt105.1, bt105.2.1, bt105.2.2)))) else (if x6 > (IntKind.u64.wrap (x1)) then ((code_source_fail.f x1000 x1001 x1002 x1003 3 x5).bind fun bt108 => (if bt108.2.1 = 0 then (some (wrap64 (x6), bt108.1, bt108.2.1, bt108.2.2)) else (some (0, bt108.1, bt108.2.1, bt108.2.2)))) else (if x1002 = 0 then (some (wrap64 (x6), x1001, x1002, x1003)) else (some (0, x1001, x1002, x1003))))
end
def code_source_number.f (k : Nat) (s0_0 : List Int) (s0_1 : Int) (s0_2 : Int) (s0_3 : Int) (a1 : Int) : Option (Int × Int × Int × Int) := code_source_number.l0 k a1 s0_1 0 0 s0_0 s0_1 s0_2 s0_3
theorem code_source_number.mono_l : ∀ k, (∀ y0 y1 y2 y3 y4 y5 y6 y7, LeO (code_source_number.l0 k y0 y1 y2 y3 y4 y5 y6 y7) (code_source_number.l0 (k + 1) y0 y1 y2 y3 y4 y5 y6 y7)) ∧ (∀ y0 y1 y2 y3 y4 y5 y6 y7, LeO (code_source_number.j1 k y0 y1 y2 y3 y4 y5 y6 y7) (code_source_number.j1 (k + 1) y0 y1 y2 y3 y4 y5 y6 y7))
 | 0 => ⟨fun _ _ _ _ _ _ _ _ r h => by simp [code_source_number.l0] at h, fun _ _ _ _ _ _ _ _ r h => by simp [code_source_number.j1] at h⟩
 | k + 1 => by
  obtain ⟨ih0, ih1⟩ := code_source_number.mono_l k
  refine ⟨?_, ?_⟩
  ·intro y0 y1 y2 y3 y4 y5 y6 y7
   unfold code_source_number.l0
   repeat' first
   | (with_reducible exact ih0 _ _ _ _ _ _ _ _)
   | (with_reducible exact ih1 _ _ _ _ _ _ _ _)
   | (with_reducible exact LeO.refl _)
   | (with_reducible exact LeO.none _)
   | (with_reducible refine LeO.ite ?_ ?_)
   | (with_reducible refine LeO.bind ?_ (fun _ => ?_))
   | exact ih0 _ _ _ _ _ _ _ _
   | exact ih1 _ _ _ _ _ _ _ _
   | exact LeO.none _
   | refine LeO.ite ?_ ?_
   | refine LeO.bind ?_ (fun _ => ?_)
  ·intro y0 y1 y2 y3 y4 y5 y6 y7
   unfold code_source_number.j1
   repeat' first
   | (with_reducible exact ih0 _ _ _ _ _ _ _ _)
   | (with_reducible exact ih1 _ _ _ _ _ _ _ _)
   | (with_reducible exact LeO.refl _)
   | (with_reducible exact LeO.none _)
   | (with_reducible refine LeO.ite ?_ ?_)
   | (with_reducible refine LeO.bind ?_ (fun _ => ?_))
   | exact ih0 _ _ _ _ _ _ _ _
   | exact ih1 _ _ _ _ _ _ _ _
   | exact LeO.none _
   | refine LeO.ite ?_ ?_
   | refine LeO.bind ?_ (fun _ => ?_)
theorem code_source_number.mono : ∀ a0 a1 a2 a3 a4 k, LeO (code_source_number.f k a0 a1 a2 a3 a4) (code_source_number.f (k + 1) a0 a1 a2 a3 a4) := by
 intro a0 a1 a2 a3 a4 k
 obtain ⟨ih0, ih1⟩ := code_source_number.mono_l k
 unfold code_source_number.f
 repeat' first
   | (with_reducible exact ih0 _ _ _ _ _ _ _ _)
   | (with_reducible exact ih1 _ _ _ _ _ _ _ _)
   | (with_reducible exact LeO.refl _)
   | (with_reducible exact LeO.none _)
   | (with_reducible refine LeO.ite ?_ ?_)
   | (with_reducible refine LeO.bind ?_ (fun _ => ?_))
   | exact ih0 _ _ _ _ _ _ _ _
   | exact ih1 _ _ _ _ _ _ _ _
   | exact LeO.none _
   | refine LeO.ite ?_ ?_
   | refine LeO.bind ?_ (fun _ => ?_)
set_option maxHeartbeats 8000000 in
set_option maxRecDepth 100000 in
theorem code_source_number.calls (k : Nat) (g : Nat) (s0_0 : List Int) (s0_1 : Int) (s0_2 : Int) (s0_3 : Int) (a1 : Int) (r1 : Int) (r2 : Int) (r3 : Int) (r4 : Int) (w0 w : World) (hI : IsS65 w0 w g s0_0 s0_1 s0_2 s0_3) (hB : Below w0.heap.size w0 w) (h : code_source_number.f k s0_0 s0_1 s0_2 s0_3 a1 = some (r1, r2, r3, r4)) :
  Calls Try.prog 46 #[.pointer (some ⟨g, 0, none⟩), .int .i64 a1] w fun e w' => e = .returned (.int .i64 r1) ∧ IsS65 w0 w' g s0_0 r2 r3 r4 ∧ Below w0.heap.size w0 w' ∧ KeepBut w w' g none := by
 have HI0 := Aside0.mk hI
 have HK := Aside0.mk (KeepBut.refl w g none)
 have HL := Aside0.mk hB.size
 clear hI
 have HW0 := Aside0.mk hB.size
 have HB := Aside0.mk hB
 clear hB
 have H : (code_source_number.l0 k a1 s0_1 0 0 s0_0 s0_1 s0_2 s0_3) = some (r1, r2, r3, r4) := h
 clear h
 have H' := Aside0.mk H
 clear H
 obtain ⟨ASz3_0, cSz3_0, HGz3, hgz3, ⟨HSz3_0, HTz3_0⟩⟩ := HI0.out
 have hcz3_0 := cellS65_0 HGz3
 have hcz3_1 := cellS65_1 HGz3
 have hcz3_2 := cellS65_2 HGz3
 have hcz3_3 := cellS65_3 HGz3
 have hfz3_1 := blk_frozen HGz3 1
 have hfz3_2 := blk_frozen HGz3 2
 have hfz3_3 := blk_frozen HGz3 3
 clear HGz3 hgz3
 go_enter Try.func46, Try.ntmps46
 go_wp2
 go_loopg [6, 7] k (fun kq v6 v7 w' => ∃ (x6_1 : Int) (x7_1 : Int) (x1001_1 : Int) (x1002_1 : Int) (x1003_1 : Int), v6 = .int .u64 x6_1 ∧ v7 = .int .i64 x7_1 ∧ Aside0 (code_source_number.l0 kq a1 s0_1 x6_1 x7_1 s0_0 x1001_1 x1002_1 x1003_1 = some (r1, r2, r3, r4)) ∧ Aside0 (kq ≤ k) ∧ Aside0 (IsS65 w0 w' g s0_0 x1001_1 x1002_1 x1003_1) ∧ Aside0 (KeepBut w w' g none) ∧ Aside0 (Below w0.heap.size w0 w'))
 case atStart => exact ⟨(0), (0), (s0_1), (s0_2), (s0_3), (by first | rfl | (simp; done) | (simp [*]; done)), (by first | rfl | (simp; done) | (simp [*]; done)), H', ⟨Nat.le_refl _⟩, ⟨by repeat (first | (with_reducible first | exact HI0.out | apply IsS65.alloc | apply IsS65.drewN | apply IsS65.drew | apply IsS65.set_1 | apply IsS65.set_2 | apply IsS65.set_3) | exact HI0.out)⟩, ⟨by repeat (first | (with_reducible first | exact HK.out | apply KeepBut.set_ | apply keep_drewN | apply keep_drew | apply keep_alloc) | exact HK.out)⟩, ⟨by repeat (first | (with_reducible first | exact HB.out | apply below_alloc | apply pw_below_drewN | apply below_drew1 | refine below_set ?_ (IsS65.ge HI0.out)) | exact HB.out)⟩⟩
 case round =>
  clear H'
  try clear p2
  try clear hcz3_0
  try clear hcz3_1
  try clear hcz3_2
  try clear hcz3_3
  try clear hfz3_1
  try clear hfz3_2
  try clear hfz3_3
  obtain ⟨x6_1, x7_1, x1001_1, x1002_1, x1003_1, rfl, rfl, HA, HK1, HI0, HK, HB⟩ := hrel
  cases gk with
  | zero => exact absurd HA.out (by simp [code_source_number.l0])
  | succ k1 =>
   have H := HA.out
   clear HA
   simp only [code_source_number.l0] at H
   by_cases c4 : x1002_1 = 0
   ·rw [if_pos c4] at H
    have c4b0 : (x1002_1 == 0) = true := beq_iff_eq.mpr c4
    have c4b1 : (x1002_1 != 0) = false := bne_eq_false_iff_eq.mpr c4
    clear c4
    replace H := Option.bind_eq_some_iff.mp H
    obtain ⟨⟨t101, t102, t103, t104⟩, A50, H⟩ := H
    replace H : (if t103 = 0 then (if 0 ≤ x7_1 then (if x7_1 ≤ 64 then (if t101 < 128 then (if (Go.bits .or .u64 x6_1 (IntKind.u64.wrap ((IntKind.u64.wrap (Go.bits .and .u8 t101 127)) * 2 ^ x7_1.toNat))) > 2147483647 then (code_source_number.j1 k1 a1 s0_1 (Go.bits .or .u64 x6_1 (IntKind.u64.wrap ((IntKind.u64.wrap (Go.bits .and .u8 t101 127)) * 2 ^ x7_1.toNat))) true s0_0 t102 t103 t104) else (if x7_1 > 0 then (code_source_number.j1 k1 a1 s0_1 (Go.bits .or .u64 x6_1 (IntKind.u64.wrap ((IntKind.u64.wrap (Go.bits .and .u8 t101 127)) * 2 ^ x7_1.toNat))) (t101 == 0) s0_0 t102 t103 t104) else (code_source_number.j1 k1 a1 s0_1 (Go.bits .or .u64 x6_1 (IntKind.u64.wrap ((IntKind.u64.wrap (Go.bits .and .u8 t101 127)) * 2 ^ x7_1.toNat))) false s0_0 t102 t103 t104))) else (if x7_1 = 28 then ((code_source_fail.f s0_0 t102 t103 t104 210 s0_1).bind fun bt111 => (code_source_number.l0 k1 a1 s0_1 (Go.bits .or .u64 x6_1 (IntKind.u64.wrap ((IntKind.u64.wrap (Go.bits .and .u8 t101 127)) * 2 ^ x7_1.toNat))) (wrap64 (x7_1 + 7)) s0_0 bt111.1 bt111.2.1 bt111.2.2)) else (code_source_number.l0 k1 a1 s0_1 (Go.bits .or .u64 x6_1 (IntKind.u64.wrap ((IntKind.u64.wrap (Go.bits .and .u8 t101 127)) * 2 ^ x7_1.toNat))) (wrap64 (x7_1 + 7)) s0_0 t102 t103 t104))) else (none)) else (none)) else (some (0, t102, t103, t104))) = some (r1, r2, r3, r4) := H
    have A5 := Aside0.mk A50
    clear A50
    by_cases c6 : t103 = 0
    ·rw [if_pos c6] at H
     have c6b0 : (t103 == 0) = true := beq_iff_eq.mpr c6
     have c6b1 : (t103 != 0) = false := bne_eq_false_iff_eq.mpr c6
     clear c6
     by_cases c7 : 0 ≤ x7_1
     ·rw [if_pos c7] at H
      have c7b0 := eq_true c7
      have c7b1 : decide (0 ≤ x7_1) = true := decide_eq_true c7
      clear c7
      by_cases c8 : x7_1 ≤ 64
      ·rw [if_pos c8] at H
       have c8b0 := eq_true c8
       have c8b1 : decide (x7_1 ≤ 64) = true := decide_eq_true c8
       clear c8
       by_cases c9 : t101 < 128
       ·rw [if_pos c9] at H
        have c9b0 : decide (t101 < 128) = true := decide_eq_true c9
        clear c9
        have HC10 := Aside0.mk H
        clear H
        obtain ⟨ASz11_0, cSz11_0, HGz11, hgz11, ⟨HSz11_0, HTz11_0⟩⟩ := HI0.out
        have hcz11_0 := cellS65_0 HGz11
        have hcz11_1 := cellS65_1 HGz11
        have hcz11_2 := cellS65_2 HGz11
        have hcz11_3 := cellS65_3 HGz11
        have hfz11_1 := blk_frozen HGz11 1
        have hfz11_2 := blk_frozen HGz11 2
        have hfz11_3 := blk_frozen HGz11 3
        clear HGz11 hgz11
        go_upto_region 11 with (first | ((with_reducible refine gate_callee (f := 44) rfl ?_); refine goesL_ (some 21) rfl rfl Try.func44 (by kernel_rfl) rfl #[.pointer (some ⟨g, 0, none⟩), .func (.func 53) #[] #[]] rfl (by (try simp only [List.map_toArray, List.map_cons, List.map_nil]); first | done | rfl | (simp only [List.length_drop, List.length_take]; rfl)) ?_; (with_reducible refine (octetN.calls g s0_0 x1001_1 x1002_1 x1003_1  t101 t102 t103 t104 w0 _ ?side1 ?side2 A5.out).mono ?_); (case side1 => repeat (first | (with_reducible first | exact HI0.out | apply IsS65.alloc | apply IsS65.drewN | apply IsS65.drew | apply IsS65.set_1 | apply IsS65.set_2 | apply IsS65.set_3) | exact HI0.out)); (case side2 => repeat (first | (with_reducible first | exact HB.out | apply below_alloc | apply pw_below_drewN | apply below_drew1 | refine below_set ?_ (IsS65.ge HI0.out)) | exact HB.out)); rintro e w12 ⟨rfl, hi, hb, hk⟩; refine ⟨_, rfl, ?_⟩; have n0_ := Aside0.mk (KeepBut.trans (by repeat (first | (with_reducible first | exact HK.out | apply KeepBut.set_ | apply keep_drewN | apply keep_drew | apply keep_alloc) | exact HK.out)) hk (.inl rfl)); have n1_ := Aside0.mk (hb); have n2_ := Aside0.mk (hi); clear HK; clear HB; clear HI0; have HK := n0_; have HB := n1_; have HI0 := n2_; clear n0_ n1_ n2_; (try clear hb); (try clear hb2); (try clear hk); (try clear hi); obtain ⟨ASz13_0, cSz13_0, HGz13, hgz13, ⟨HSz13_0, HTz13_0⟩⟩ := HI0.out; have hcz13_0 := cellS65_0 HGz13; have hcz13_1 := cellS65_1 HGz13; have hcz13_2 := cellS65_2 HGz13; have hcz13_3 := cellS65_3 HGz13; have hfz13_1 := blk_frozen HGz13 1; have hfz13_2 := blk_frozen HGz13 2; have hfz13_3 := blk_frozen HGz13 3; clear HGz13 hgz13))
        (try simp only [Act.put, List.setIfInBounds_toArray, List.set_cons_zero, List.set_cons_succ])
        go_cut [45] (fun v45 wc => ∃ (kq : Nat) (x45_9 : Bool), v45 = .bool x45_9 ∧ Aside0 (code_source_number.j1 kq a1 s0_1 (Go.bits .or .u64 x6_1 (IntKind.u64.wrap ((IntKind.u64.wrap (Go.bits .and .u8 t101 127)) * 2 ^ x7_1.toNat))) x45_9 s0_0 t102 t103 t104 = some (r1, r2, r3, r4)) ∧ Aside0 (kq ≤ k1) ∧ Aside0 (IsS65 w0 wc g s0_0 t102 t103 t104) ∧ Aside0 (KeepBut w wc g none) ∧ Aside0 (Below w0.heap.size w0 wc))
        case first =>
         have H := HC10.out
         clear HC10
         by_cases c14 : (Go.bits .or .u64 x6_1 (IntKind.u64.wrap ((IntKind.u64.wrap (Go.bits .and .u8 t101 127)) * 2 ^ x7_1.toNat))) > 2147483647
         ·rw [if_pos c14] at H
          have c14b0 : decide (2147483647 < (Go.bits .or .u64 x6_1 (IntKind.u64.wrap ((IntKind.u64.wrap (Go.bits .and .u8 t101 127)) * 2 ^ x7_1.toNat)))) = true := decide_eq_true c14
          clear c14
          (first | rw [c14b0] | (simp only [i64_w, i32_w]; rw [c14b0]) | skip)
          have H' := Aside0.mk H
          clear H
          go_wp2
          go_meet
          case rel => exact ⟨_, (true), (by first | rfl | (simp; done) | (simp [*]; done)), H', ⟨by have := HK1.out; first | omega | exact Nat.le_refl _⟩, ⟨by repeat (first | (with_reducible first | exact HI0.out | apply IsS65.alloc | apply IsS65.drewN | apply IsS65.drew | apply IsS65.set_1 | apply IsS65.set_2 | apply IsS65.set_3) | exact HI0.out)⟩, ⟨by repeat (first | (with_reducible first | exact HK.out | apply KeepBut.set_ | apply keep_drewN | apply keep_drew | apply keep_alloc) | exact HK.out)⟩, ⟨by repeat (first | (with_reducible first | exact HB.out | apply below_alloc | apply pw_below_drewN | apply below_drew1 | refine below_set ?_ (IsS65.ge HI0.out)) | exact HB.out)⟩⟩
         ·rw [if_neg c14] at H
          have c14b0 : decide (2147483647 < (Go.bits .or .u64 x6_1 (IntKind.u64.wrap ((IntKind.u64.wrap (Go.bits .and .u8 t101 127)) * 2 ^ x7_1.toNat)))) = false := decide_eq_false c14
          clear c14
          (first | rw [c14b0] | (simp only [i64_w, i32_w]; rw [c14b0]) | skip)
          by_cases c15 : x7_1 > 0
          ·rw [if_pos c15] at H
           have c15b0 : decide (0 < x7_1) = true := decide_eq_true c15
           clear c15
           have H' := Aside0.mk H
           clear H
           go_wp2
           go_meet
           case rel => exact ⟨_, ((t101 == 0)), (by first | rfl | (simp; done) | (simp [*]; done)), H', ⟨by have := HK1.out; first | omega | exact Nat.le_refl _⟩, ⟨by repeat (first | (with_reducible first | exact HI0.out | apply IsS65.alloc | apply IsS65.drewN | apply IsS65.drew | apply IsS65.set_1 | apply IsS65.set_2 | apply IsS65.set_3) | exact HI0.out)⟩, ⟨by repeat (first | (with_reducible first | exact HK.out | apply KeepBut.set_ | apply keep_drewN | apply keep_drew | apply keep_alloc) | exact HK.out)⟩, ⟨by repeat (first | (with_reducible first | exact HB.out | apply below_alloc | apply pw_below_drewN | apply below_drew1 | refine below_set ?_ (IsS65.ge HI0.out)) | exact HB.out)⟩⟩
          ·rw [if_neg c15] at H
           have c15b0 : decide (0 < x7_1) = false := decide_eq_false c15
           clear c15
           have H' := Aside0.mk H
           clear H
           go_wp2
           go_meet
           case rel => exact ⟨_, (false), (by first | rfl | (simp; done) | (simp [*]; done)), H', ⟨by have := HK1.out; first | omega | exact Nat.le_refl _⟩, ⟨by repeat (first | (with_reducible first | exact HI0.out | apply IsS65.alloc | apply IsS65.drewN | apply IsS65.drew | apply IsS65.set_1 | apply IsS65.set_2 | apply IsS65.set_3) | exact HI0.out)⟩, ⟨by repeat (first | (with_reducible first | exact HK.out | apply KeepBut.set_ | apply keep_drewN | apply keep_drew | apply keep_alloc) | exact HK.out)⟩, ⟨by repeat (first | (with_reducible first | exact HB.out | apply below_alloc | apply pw_below_drewN | apply below_drew1 | refine below_set ?_ (IsS65.ge HI0.out)) | exact HB.out)⟩⟩
        case rest =>
         clear HC10
         try clear c1
         try clear p2
         try clear c4
         try clear c4b0
         try clear c4b1
         try clear c6
         try clear c6b0
         try clear c6b1
         try clear p6
         try clear c7
         try clear c7b0
         try clear c7b1
         try clear c8
         try clear c8b0
         try clear c8b1
         try clear c9
         try clear c9b0
         try clear c14
         try clear c14b0
         try clear c15
         try clear c15b0
         try clear hcz11_0
         try clear hcz11_1
         try clear hcz11_2
         try clear hcz11_3
         try clear hcz13_0
         try clear hcz13_1
         try clear hcz13_2
         try clear hcz13_3
         try clear hcz3_0
         try clear hcz3_1
         try clear hcz3_2
         try clear hcz3_3
         try clear hfz11_1
         try clear hfz11_2
         try clear hfz11_3
         try clear hfz13_1
         try clear hfz13_2
         try clear hfz13_3
         try clear hfz3_1
         try clear hfz3_2
         try clear hfz3_3
         try clear p2
         obtain ⟨kq, x45_9, rfl, HA, HJ9, HI0, HK, HB⟩ := hcut
         cases kq with
         | zero => exact absurd HA.out (by simp [code_source_number.j1])
         | succ kj9 =>
          have H := HA.out
          clear HA
          simp only [code_source_number.j1] at H
          by_cases c16 : x45_9 = true
          ·subst c16
           have H1 : ((code_source_fail.f s0_0 t102 t103 t104 210 s0_1).bind fun bt105 => (if bt105.2.1 = 0 then (some (wrap64 ((Go.bits .or .u64 x6_1 (IntKind.u64.wrap ((IntKind.u64.wrap (Go.bits .and .u8 t101 127)) * 2 ^ x7_1.toNat)))), bt105.1, bt105.2.1, bt105.2.2)) else (some (0, bt105.1, bt105.2.1, bt105.2.2)))) = some (r1, r2, r3, r4) := by rw [if_pos rfl] at H; exact H
           clear H
           have H := H1
           clear H1
           replace H := Option.bind_eq_some_iff.mp H
           obtain ⟨⟨t105, t106, t107⟩, A170, H⟩ := H
           replace H : (if t106 = 0 then (some (wrap64 ((Go.bits .or .u64 x6_1 (IntKind.u64.wrap ((IntKind.u64.wrap (Go.bits .and .u8 t101 127)) * 2 ^ x7_1.toNat)))), t105, t106, t107)) else (some (0, t105, t106, t107))) = some (r1, r2, r3, r4) := H
           have A17 := Aside0.mk A170
           clear A170
           by_cases c18 : t106 = 0
           ·rw [if_pos c18] at H
            have c18b0 : (t106 == 0) = true := beq_iff_eq.mpr c18
            have c18b1 : (t106 != 0) = false := bne_eq_false_iff_eq.mpr c18
            clear c18
            simp only [Option.some.injEq, Prod.mk.injEq] at H
            obtain ⟨rfl, rfl, rfl, rfl⟩ := H
            go_wp2_with (first | ((with_reducible refine gate_callee (f := 50) rfl ?_); refine goesL_ (some 48) rfl rfl Try.func50 (by kernel_rfl) rfl #[.pointer (some ⟨g, 0, none⟩), .int .i64 210, .int .i64 s0_1] rfl (by (try simp only [List.map_toArray, List.map_cons, List.map_nil]); first | done | rfl | (simp only [List.length_drop, List.length_take]; rfl)) ?_; (with_reducible refine (code_source_fail.calls g s0_0 t102 t103 t104 210 s0_1 t105 t106 t107 w0 _ ?side1 ?side2 A17.out).mono ?_); (case side1 => repeat (first | (with_reducible first | exact HI0.out | apply IsS65.alloc | apply IsS65.drewN | apply IsS65.drew | apply IsS65.set_1 | apply IsS65.set_2 | apply IsS65.set_3) | exact HI0.out)); (case side2 => repeat (first | (with_reducible first | exact HB.out | apply below_alloc | apply pw_below_drewN | apply below_drew1 | refine below_set ?_ (IsS65.ge HI0.out)) | exact HB.out)); rintro e w19 ⟨rfl, hi, hb, hk⟩; refine ⟨_, rfl, ?_⟩; have n0_ := Aside0.mk (KeepBut.trans (by repeat (first | (with_reducible first | exact HK.out | apply KeepBut.set_ | apply keep_drewN | apply keep_drew | apply keep_alloc) | exact HK.out)) hk (.inl rfl)); have n1_ := Aside0.mk (hb); have n2_ := Aside0.mk (hi); clear HK; clear HB; clear HI0; have HK := n0_; have HB := n1_; have HI0 := n2_; clear n0_ n1_ n2_; (try clear hb); (try clear hb2); (try clear hk); (try clear hi); obtain ⟨ASz20_0, cSz20_0, HGz20, hgz20, ⟨HSz20_0, HTz20_0⟩⟩ := HI0.out; have hcz20_0 := cellS65_0 HGz20; have hcz20_1 := cellS65_1 HGz20; have hcz20_2 := cellS65_2 HGz20; have hcz20_3 := cellS65_3 HGz20; have hfz20_1 := blk_frozen HGz20 1; have hfz20_2 := blk_frozen HGz20 2; have hfz20_3 := blk_frozen HGz20 3; clear HGz20 hgz20))
            go_ret
            exact ⟨by first | rfl | (simp [errW_none, errW_some] <;> rfl) | (simp [*, errW_none, errW_some] <;> rfl), by repeat (first | (with_reducible first | exact HI0.out | apply IsS65.alloc | apply IsS65.drewN | apply IsS65.drew | apply IsS65.set_1 | apply IsS65.set_2 | apply IsS65.set_3) | exact HI0.out), by repeat (first | (with_reducible first | exact HB.out | apply below_alloc | apply pw_below_drewN | apply below_drew1 | refine below_set ?_ (IsS65.ge HI0.out)) | exact HB.out), by repeat (first | (with_reducible first | exact HK.out | apply KeepBut.set_ | apply keep_drewN | apply keep_drew | apply keep_alloc) | exact HK.out)⟩
           ·rw [if_neg c18] at H
            have c18b0 : (t106 == 0) = false := beq_eq_false_iff_ne.mpr c18
            have c18b1 : (t106 != 0) = true := bne_iff_ne.mpr c18
            simp only [Option.some.injEq, Prod.mk.injEq] at H
            obtain ⟨rfl, rfl, rfl, rfl⟩ := H
            go_wp2_with (first | ((with_reducible refine gate_callee (f := 50) rfl ?_); refine goesL_ (some 48) rfl rfl Try.func50 (by kernel_rfl) rfl #[.pointer (some ⟨g, 0, none⟩), .int .i64 210, .int .i64 s0_1] rfl (by (try simp only [List.map_toArray, List.map_cons, List.map_nil]); first | done | rfl | (simp only [List.length_drop, List.length_take]; rfl)) ?_; (with_reducible refine (code_source_fail.calls g s0_0 t102 t103 t104 210 s0_1 t105 t106 t107 w0 _ ?side1 ?side2 A17.out).mono ?_); (case side1 => repeat (first | (with_reducible first | exact HI0.out | apply IsS65.alloc | apply IsS65.drewN | apply IsS65.drew | apply IsS65.set_1 | apply IsS65.set_2 | apply IsS65.set_3) | exact HI0.out)); (case side2 => repeat (first | (with_reducible first | exact HB.out | apply below_alloc | apply pw_below_drewN | apply below_drew1 | refine below_set ?_ (IsS65.ge HI0.out)) | exact HB.out)); rintro e w21 ⟨rfl, hi, hb, hk⟩; refine ⟨_, rfl, ?_⟩; have n0_ := Aside0.mk (KeepBut.trans (by repeat (first | (with_reducible first | exact HK.out | apply KeepBut.set_ | apply keep_drewN | apply keep_drew | apply keep_alloc) | exact HK.out)) hk (.inl rfl)); have n1_ := Aside0.mk (hb); have n2_ := Aside0.mk (hi); clear HK; clear HB; clear HI0; have HK := n0_; have HB := n1_; have HI0 := n2_; clear n0_ n1_ n2_; (try clear hb); (try clear hb2); (try clear hk); (try clear hi); obtain ⟨ASz22_0, cSz22_0, HGz22, hgz22, ⟨HSz22_0, HTz22_0⟩⟩ := HI0.out; have hcz22_0 := cellS65_0 HGz22; have hcz22_1 := cellS65_1 HGz22; have hcz22_2 := cellS65_2 HGz22; have hcz22_3 := cellS65_3 HGz22; have hfz22_1 := blk_frozen HGz22 1; have hfz22_2 := blk_frozen HGz22 2; have hfz22_3 := blk_frozen HGz22 3; clear HGz22 hgz22))
            go_ret
            exact ⟨by first | rfl | (simp [errW_none, errW_some] <;> rfl) | (simp [*, errW_none, errW_some] <;> rfl), by repeat (first | (with_reducible first | exact HI0.out | apply IsS65.alloc | apply IsS65.drewN | apply IsS65.drew | apply IsS65.set_1 | apply IsS65.set_2 | apply IsS65.set_3) | exact HI0.out), by repeat (first | (with_reducible first | exact HB.out | apply below_alloc | apply pw_below_drewN | apply below_drew1 | refine below_set ?_ (IsS65.ge HI0.out)) | exact HB.out), by repeat (first | (with_reducible first | exact HK.out | apply KeepBut.set_ | apply keep_drewN | apply keep_drew | apply keep_alloc) | exact HK.out)⟩
          ·replace c16 := Bool.eq_false_iff.mpr c16
           subst c16
           have H1 : (if (Go.bits .or .u64 x6_1 (IntKind.u64.wrap ((IntKind.u64.wrap (Go.bits .and .u8 t101 127)) * 2 ^ x7_1.toNat))) > (IntKind.u64.wrap (a1)) then ((code_source_fail.f s0_0 t102 t103 t104 3 s0_1).bind fun bt108 => (if bt108.2.1 = 0 then (some (wrap64 ((Go.bits .or .u64 x6_1 (IntKind.u64.wrap ((IntKind.u64.wrap (Go.bits .and .u8 t101 127)) * 2 ^ x7_1.toNat)))), bt108.1, bt108.2.1, bt108.2.2)) else (some (0, bt108.1, bt108.2.1, bt108.2.2)))) else (if t103 = 0 then (some (wrap64 ((Go.bits .or .u64 x6_1 (IntKind.u64.wrap ((IntKind.u64.wrap (Go.bits .and .u8 t101 127)) * 2 ^ x7_1.toNat)))), t102, t103, t104)) else (some (0, t102, t103, t104)))) = some (r1, r2, r3, r4) := by rw [if_neg (show ¬ (false = true) by decide)] at H; exact H
           clear H
           have H := H1
           clear H1
           by_cases c23 : (Go.bits .or .u64 x6_1 (IntKind.u64.wrap ((IntKind.u64.wrap (Go.bits .and .u8 t101 127)) * 2 ^ x7_1.toNat))) > (IntKind.u64.wrap (a1))
           ·rw [if_pos c23] at H
            have c23b0 : decide ((IntKind.u64.wrap (a1)) < (Go.bits .or .u64 x6_1 (IntKind.u64.wrap ((IntKind.u64.wrap (Go.bits .and .u8 t101 127)) * 2 ^ x7_1.toNat)))) = true := decide_eq_true c23
            clear c23
            replace H := Option.bind_eq_some_iff.mp H
            obtain ⟨⟨t108, t109, t110⟩, A240, H⟩ := H
            replace H : (if t109 = 0 then (some (wrap64 ((Go.bits .or .u64 x6_1 (IntKind.u64.wrap ((IntKind.u64.wrap (Go.bits .and .u8 t101 127)) * 2 ^ x7_1.toNat)))), t108, t109, t110)) else (some (0, t108, t109, t110))) = some (r1, r2, r3, r4) := H
            have A24 := Aside0.mk A240
            clear A240
            by_cases c25 : t109 = 0
            ·rw [if_pos c25] at H
             have c25b0 : (t109 == 0) = true := beq_iff_eq.mpr c25
             have c25b1 : (t109 != 0) = false := bne_eq_false_iff_eq.mpr c25
             clear c25
             simp only [Option.some.injEq, Prod.mk.injEq] at H
             obtain ⟨rfl, rfl, rfl, rfl⟩ := H
             go_wp2_with (first | ((with_reducible refine gate_callee (f := 50) rfl ?_); refine goesL_ (some 55) rfl rfl Try.func50 (by kernel_rfl) rfl #[.pointer (some ⟨g, 0, none⟩), .int .i64 3, .int .i64 s0_1] rfl (by (try simp only [List.map_toArray, List.map_cons, List.map_nil]); first | done | rfl | (simp only [List.length_drop, List.length_take]; rfl)) ?_; (with_reducible refine (code_source_fail.calls g s0_0 t102 t103 t104 3 s0_1 t108 t109 t110 w0 _ ?side1 ?side2 A24.out).mono ?_); (case side1 => repeat (first | (with_reducible first | exact HI0.out | apply IsS65.alloc | apply IsS65.drewN | apply IsS65.drew | apply IsS65.set_1 | apply IsS65.set_2 | apply IsS65.set_3) | exact HI0.out)); (case side2 => repeat (first | (with_reducible first | exact HB.out | apply below_alloc | apply pw_below_drewN | apply below_drew1 | refine below_set ?_ (IsS65.ge HI0.out)) | exact HB.out)); rintro e w26 ⟨rfl, hi, hb, hk⟩; refine ⟨_, rfl, ?_⟩; have n0_ := Aside0.mk (KeepBut.trans (by repeat (first | (with_reducible first | exact HK.out | apply KeepBut.set_ | apply keep_drewN | apply keep_drew | apply keep_alloc) | exact HK.out)) hk (.inl rfl)); have n1_ := Aside0.mk (hb); have n2_ := Aside0.mk (hi); clear HK; clear HB; clear HI0; have HK := n0_; have HB := n1_; have HI0 := n2_; clear n0_ n1_ n2_; (try clear hb); (try clear hb2); (try clear hk); (try clear hi); obtain ⟨ASz27_0, cSz27_0, HGz27, hgz27, ⟨HSz27_0, HTz27_0⟩⟩ := HI0.out; have hcz27_0 := cellS65_0 HGz27; have hcz27_1 := cellS65_1 HGz27; have hcz27_2 := cellS65_2 HGz27; have hcz27_3 := cellS65_3 HGz27; have hfz27_1 := blk_frozen HGz27 1; have hfz27_2 := blk_frozen HGz27 2; have hfz27_3 := blk_frozen HGz27 3; clear HGz27 hgz27))
             go_ret
             exact ⟨by first | rfl | (simp [errW_none, errW_some] <;> rfl) | (simp [*, errW_none, errW_some] <;> rfl), by repeat (first | (with_reducible first | exact HI0.out | apply IsS65.alloc | apply IsS65.drewN | apply IsS65.drew | apply IsS65.set_1 | apply IsS65.set_2 | apply IsS65.set_3) | exact HI0.out), by repeat (first | (with_reducible first | exact HB.out | apply below_alloc | apply pw_below_drewN | apply below_drew1 | refine below_set ?_ (IsS65.ge HI0.out)) | exact HB.out), by repeat (first | (with_reducible first | exact HK.out | apply KeepBut.set_ | apply keep_drewN | apply keep_drew | apply keep_alloc) | exact HK.out)⟩
            ·rw [if_neg c25] at H
             have c25b0 : (t109 == 0) = false := beq_eq_false_iff_ne.mpr c25
             have c25b1 : (t109 != 0) = true := bne_iff_ne.mpr c25
             simp only [Option.some.injEq, Prod.mk.injEq] at H
             obtain ⟨rfl, rfl, rfl, rfl⟩ := H
             go_wp2_with (first | ((with_reducible refine gate_callee (f := 50) rfl ?_); refine goesL_ (some 55) rfl rfl Try.func50 (by kernel_rfl) rfl #[.pointer (some ⟨g, 0, none⟩), .int .i64 3, .int .i64 s0_1] rfl (by (try simp only [List.map_toArray, List.map_cons, List.map_nil]); first | done | rfl | (simp only [List.length_drop, List.length_take]; rfl)) ?_; (with_reducible refine (code_source_fail.calls g s0_0 t102 t103 t104 3 s0_1 t108 t109 t110 w0 _ ?side1 ?side2 A24.out).mono ?_); (case side1 => repeat (first | (with_reducible first | exact HI0.out | apply IsS65.alloc | apply IsS65.drewN | apply IsS65.drew | apply IsS65.set_1 | apply IsS65.set_2 | apply IsS65.set_3) | exact HI0.out)); (case side2 => repeat (first | (with_reducible first | exact HB.out | apply below_alloc | apply pw_below_drewN | apply below_drew1 | refine below_set ?_ (IsS65.ge HI0.out)) | exact HB.out)); rintro e w28 ⟨rfl, hi, hb, hk⟩; refine ⟨_, rfl, ?_⟩; have n0_ := Aside0.mk (KeepBut.trans (by repeat (first | (with_reducible first | exact HK.out | apply KeepBut.set_ | apply keep_drewN | apply keep_drew | apply keep_alloc) | exact HK.out)) hk (.inl rfl)); have n1_ := Aside0.mk (hb); have n2_ := Aside0.mk (hi); clear HK; clear HB; clear HI0; have HK := n0_; have HB := n1_; have HI0 := n2_; clear n0_ n1_ n2_; (try clear hb); (try clear hb2); (try clear hk); (try clear hi); obtain ⟨ASz29_0, cSz29_0, HGz29, hgz29, ⟨HSz29_0, HTz29_0⟩⟩ := HI0.out; have hcz29_0 := cellS65_0 HGz29; have hcz29_1 := cellS65_1 HGz29; have hcz29_2 := cellS65_2 HGz29; have hcz29_3 := cellS65_3 HGz29; have hfz29_1 := blk_frozen HGz29 1; have hfz29_2 := blk_frozen HGz29 2; have hfz29_3 := blk_frozen HGz29 3; clear HGz29 hgz29))
             go_ret
             exact ⟨by first | rfl | (simp [errW_none, errW_some] <;> rfl) | (simp [*, errW_none, errW_some] <;> rfl), by repeat (first | (with_reducible first | exact HI0.out | apply IsS65.alloc | apply IsS65.drewN | apply IsS65.drew | apply IsS65.set_1 | apply IsS65.set_2 | apply IsS65.set_3) | exact HI0.out), by repeat (first | (with_reducible first | exact HB.out | apply below_alloc | apply pw_below_drewN | apply below_drew1 | refine below_set ?_ (IsS65.ge HI0.out)) | exact HB.out), by repeat (first | (with_reducible first | exact HK.out | apply KeepBut.set_ | apply keep_drewN | apply keep_drew | apply keep_alloc) | exact HK.out)⟩
           ·rw [if_neg c23] at H
            have c23b0 : decide ((IntKind.u64.wrap (a1)) < (Go.bits .or .u64 x6_1 (IntKind.u64.wrap ((IntKind.u64.wrap (Go.bits .and .u8 t101 127)) * 2 ^ x7_1.toNat)))) = false := decide_eq_false c23
            clear c23
            by_cases c30 : t103 = 0
            ·rw [if_pos c30] at H
             have c30b0 : (t103 == 0) = true := beq_iff_eq.mpr c30
             have c30b1 : (t103 != 0) = false := bne_eq_false_iff_eq.mpr c30
             clear c30
             simp only [Option.some.injEq, Prod.mk.injEq] at H
             obtain ⟨rfl, rfl, rfl, rfl⟩ := H
             obtain ⟨ASz31_0, cSz31_0, HGz31, hgz31, ⟨HSz31_0, HTz31_0⟩⟩ := HI0.out
             have hcz31_0 := cellS65_0 HGz31
             have hcz31_1 := cellS65_1 HGz31
             have hcz31_2 := cellS65_2 HGz31
             have hcz31_3 := cellS65_3 HGz31
             have hfz31_1 := blk_frozen HGz31 1
             have hfz31_2 := blk_frozen HGz31 2
             have hfz31_3 := blk_frozen HGz31 3
             clear HGz31 hgz31
             go_wp2
             go_ret
             exact ⟨by first | rfl | (simp [errW_none, errW_some] <;> rfl) | (simp [*, errW_none, errW_some] <;> rfl), by repeat (first | (with_reducible first | exact HI0.out | apply IsS65.alloc | apply IsS65.drewN | apply IsS65.drew | apply IsS65.set_1 | apply IsS65.set_2 | apply IsS65.set_3) | exact HI0.out), by repeat (first | (with_reducible first | exact HB.out | apply below_alloc | apply pw_below_drewN | apply below_drew1 | refine below_set ?_ (IsS65.ge HI0.out)) | exact HB.out), by repeat (first | (with_reducible first | exact HK.out | apply KeepBut.set_ | apply keep_drewN | apply keep_drew | apply keep_alloc) | exact HK.out)⟩
            ·rw [if_neg c30] at H
             have c30b0 : (t103 == 0) = false := beq_eq_false_iff_ne.mpr c30
             have c30b1 : (t103 != 0) = true := bne_iff_ne.mpr c30
             simp only [Option.some.injEq, Prod.mk.injEq] at H
             obtain ⟨rfl, rfl, rfl, rfl⟩ := H
             obtain ⟨ASz32_0, cSz32_0, HGz32, hgz32, ⟨HSz32_0, HTz32_0⟩⟩ := HI0.out
             have hcz32_0 := cellS65_0 HGz32
             have hcz32_1 := cellS65_1 HGz32
             have hcz32_2 := cellS65_2 HGz32
             have hcz32_3 := cellS65_3 HGz32
             have hfz32_1 := blk_frozen HGz32 1
             have hfz32_2 := blk_frozen HGz32 2
             have hfz32_3 := blk_frozen HGz32 3
             clear HGz32 hgz32
             go_wp2
             go_ret
             exact ⟨by first | rfl | (simp [errW_none, errW_some] <;> rfl) | (simp [*, errW_none, errW_some] <;> rfl), by repeat (first | (with_reducible first | exact HI0.out | apply IsS65.alloc | apply IsS65.drewN | apply IsS65.drew | apply IsS65.set_1 | apply IsS65.set_2 | apply IsS65.set_3) | exact HI0.out), by repeat (first | (with_reducible first | exact HB.out | apply below_alloc | apply pw_below_drewN | apply below_drew1 | refine below_set ?_ (IsS65.ge HI0.out)) | exact HB.out), by repeat (first | (with_reducible first | exact HK.out | apply KeepBut.set_ | apply keep_drewN | apply keep_drew | apply keep_alloc) | exact HK.out)⟩
       ·rw [if_neg c9] at H
        have c9b0 : decide (t101 < 128) = false := decide_eq_false c9
        clear c9
        by_cases c33 : x7_1 = 28
        ·rw [if_pos c33] at H
         have c33b0 : (x7_1 == 28) = true := beq_iff_eq.mpr c33
         have c33b1 : (x7_1 != 28) = false := bne_eq_false_iff_eq.mpr c33
         clear c33
         replace H := Option.bind_eq_some_iff.mp H
         obtain ⟨⟨t111, t112, t113⟩, A340, H⟩ := H
         replace H : (code_source_number.l0 k1 a1 s0_1 (Go.bits .or .u64 x6_1 (IntKind.u64.wrap ((IntKind.u64.wrap (Go.bits .and .u8 t101 127)) * 2 ^ x7_1.toNat))) (wrap64 (x7_1 + 7)) s0_0 t111 t112 t113) = some (r1, r2, r3, r4) := H
         have A34 := Aside0.mk A340
         clear A340
         have H' := Aside0.mk H
         clear H
         obtain ⟨ASz35_0, cSz35_0, HGz35, hgz35, ⟨HSz35_0, HTz35_0⟩⟩ := HI0.out
         have hcz35_0 := cellS65_0 HGz35
         have hcz35_1 := cellS65_1 HGz35
         have hcz35_2 := cellS65_2 HGz35
         have hcz35_3 := cellS65_3 HGz35
         have hfz35_1 := blk_frozen HGz35 1
         have hfz35_2 := blk_frozen HGz35 2
         have hfz35_3 := blk_frozen HGz35 3
         clear HGz35 hgz35
         go_wp2_with (first | ((with_reducible refine gate_callee (f := 44) rfl ?_); refine goesL_ (some 21) rfl rfl Try.func44 (by kernel_rfl) rfl #[.pointer (some ⟨g, 0, none⟩), .func (.func 53) #[] #[]] rfl (by (try simp only [List.map_toArray, List.map_cons, List.map_nil]); first | done | rfl | (simp only [List.length_drop, List.length_take]; rfl)) ?_; (with_reducible refine (octetN.calls g s0_0 x1001_1 x1002_1 x1003_1  t101 t102 t103 t104 w0 _ ?side1 ?side2 A5.out).mono ?_); (case side1 => repeat (first | (with_reducible first | exact HI0.out | apply IsS65.alloc | apply IsS65.drewN | apply IsS65.drew | apply IsS65.set_1 | apply IsS65.set_2 | apply IsS65.set_3) | exact HI0.out)); (case side2 => repeat (first | (with_reducible first | exact HB.out | apply below_alloc | apply pw_below_drewN | apply below_drew1 | refine below_set ?_ (IsS65.ge HI0.out)) | exact HB.out)); rintro e w36 ⟨rfl, hi, hb, hk⟩; refine ⟨_, rfl, ?_⟩; have n0_ := Aside0.mk (KeepBut.trans (by repeat (first | (with_reducible first | exact HK.out | apply KeepBut.set_ | apply keep_drewN | apply keep_drew | apply keep_alloc) | exact HK.out)) hk (.inl rfl)); have n1_ := Aside0.mk (hb); have n2_ := Aside0.mk (hi); clear HK; clear HB; clear HI0; have HK := n0_; have HB := n1_; have HI0 := n2_; clear n0_ n1_ n2_; (try clear hb); (try clear hb2); (try clear hk); (try clear hi); obtain ⟨ASz37_0, cSz37_0, HGz37, hgz37, ⟨HSz37_0, HTz37_0⟩⟩ := HI0.out; have hcz37_0 := cellS65_0 HGz37; have hcz37_1 := cellS65_1 HGz37; have hcz37_2 := cellS65_2 HGz37; have hcz37_3 := cellS65_3 HGz37; have hfz37_1 := blk_frozen HGz37 1; have hfz37_2 := blk_frozen HGz37 2; have hfz37_3 := blk_frozen HGz37 3; clear HGz37 hgz37) | ((with_reducible refine gate_callee (f := 50) rfl ?_); refine goesL_ (some 60) rfl rfl Try.func50 (by kernel_rfl) rfl #[.pointer (some ⟨g, 0, none⟩), .int .i64 210, .int .i64 s0_1] rfl (by (try simp only [List.map_toArray, List.map_cons, List.map_nil]); first | done | rfl | (simp only [List.length_drop, List.length_take]; rfl)) ?_; (with_reducible refine (code_source_fail.calls g s0_0 t102 t103 t104 210 s0_1 t111 t112 t113 w0 _ ?side1 ?side2 A34.out).mono ?_); (case side1 => repeat (first | (with_reducible first | exact HI0.out | apply IsS65.alloc | apply IsS65.drewN | apply IsS65.drew | apply IsS65.set_1 | apply IsS65.set_2 | apply IsS65.set_3) | exact HI0.out)); (case side2 => repeat (first | (with_reducible first | exact HB.out | apply below_alloc | apply pw_below_drewN | apply below_drew1 | refine below_set ?_ (IsS65.ge HI0.out)) | exact HB.out)); rintro e w38 ⟨rfl, hi, hb, hk⟩; refine ⟨_, rfl, ?_⟩; have n0_ := Aside0.mk (KeepBut.trans (by repeat (first | (with_reducible first | exact HK.out | apply KeepBut.set_ | apply keep_drewN | apply keep_drew | apply keep_alloc) | exact HK.out)) hk (.inl rfl)); have n1_ := Aside0.mk (hb); have n2_ := Aside0.mk (hi); clear HK; clear HB; clear HI0; have HK := n0_; have HB := n1_; have HI0 := n2_; clear n0_ n1_ n2_; (try clear hb); (try clear hb2); (try clear hk); (try clear hi)))
         go_roundg k1
         case measure => have := HK1.out; omega
         case rel => exact ⟨(Go.bits .or .u64 x6_1 (IntKind.u64.wrap ((IntKind.u64.wrap (Go.bits .and .u8 t101 127)) * 2 ^ x7_1.toNat))), (wrap64 (x7_1 + 7)), (t111), (t112), (t113), (by first | rfl | (simp; done) | (simp [*]; done)), (by first | rfl | (simp; done) | (simp [*]; done)), H', ⟨by have := HK1.out; omega⟩, ⟨by repeat (first | (with_reducible first | exact HI0.out | apply IsS65.alloc | apply IsS65.drewN | apply IsS65.drew | apply IsS65.set_1 | apply IsS65.set_2 | apply IsS65.set_3) | exact HI0.out)⟩, ⟨by repeat (first | (with_reducible first | exact HK.out | apply KeepBut.set_ | apply keep_drewN | apply keep_drew | apply keep_alloc) | exact HK.out)⟩, ⟨by repeat (first | (with_reducible first | exact HB.out | apply below_alloc | apply pw_below_drewN | apply below_drew1 | refine below_set ?_ (IsS65.ge HI0.out)) | exact HB.out)⟩⟩
        ·rw [if_neg c33] at H
         have c33b0 : (x7_1 == 28) = false := beq_eq_false_iff_ne.mpr c33
         have c33b1 : (x7_1 != 28) = true := bne_iff_ne.mpr c33
         have H' := Aside0.mk H
         clear H
         obtain ⟨ASz39_0, cSz39_0, HGz39, hgz39, ⟨HSz39_0, HTz39_0⟩⟩ := HI0.out
         have hcz39_0 := cellS65_0 HGz39
         have hcz39_1 := cellS65_1 HGz39
         have hcz39_2 := cellS65_2 HGz39
         have hcz39_3 := cellS65_3 HGz39
         have hfz39_1 := blk_frozen HGz39 1
         have hfz39_2 := blk_frozen HGz39 2
         have hfz39_3 := blk_frozen HGz39 3
         clear HGz39 hgz39
         go_wp2_with (first | ((with_reducible refine gate_callee (f := 44) rfl ?_); refine goesL_ (some 21) rfl rfl Try.func44 (by kernel_rfl) rfl #[.pointer (some ⟨g, 0, none⟩), .func (.func 53) #[] #[]] rfl (by (try simp only [List.map_toArray, List.map_cons, List.map_nil]); first | done | rfl | (simp only [List.length_drop, List.length_take]; rfl)) ?_; (with_reducible refine (octetN.calls g s0_0 x1001_1 x1002_1 x1003_1  t101 t102 t103 t104 w0 _ ?side1 ?side2 A5.out).mono ?_); (case side1 => repeat (first | (with_reducible first | exact HI0.out | apply IsS65.alloc | apply IsS65.drewN | apply IsS65.drew | apply IsS65.set_1 | apply IsS65.set_2 | apply IsS65.set_3) | exact HI0.out)); (case side2 => repeat (first | (with_reducible first | exact HB.out | apply below_alloc | apply pw_below_drewN | apply below_drew1 | refine below_set ?_ (IsS65.ge HI0.out)) | exact HB.out)); rintro e w40 ⟨rfl, hi, hb, hk⟩; refine ⟨_, rfl, ?_⟩; have n0_ := Aside0.mk (KeepBut.trans (by repeat (first | (with_reducible first | exact HK.out | apply KeepBut.set_ | apply keep_drewN | apply keep_drew | apply keep_alloc) | exact HK.out)) hk (.inl rfl)); have n1_ := Aside0.mk (hb); have n2_ := Aside0.mk (hi); clear HK; clear HB; clear HI0; have HK := n0_; have HB := n1_; have HI0 := n2_; clear n0_ n1_ n2_; (try clear hb); (try clear hb2); (try clear hk); (try clear hi); obtain ⟨ASz41_0, cSz41_0, HGz41, hgz41, ⟨HSz41_0, HTz41_0⟩⟩ := HI0.out; have hcz41_0 := cellS65_0 HGz41; have hcz41_1 := cellS65_1 HGz41; have hcz41_2 := cellS65_2 HGz41; have hcz41_3 := cellS65_3 HGz41; have hfz41_1 := blk_frozen HGz41 1; have hfz41_2 := blk_frozen HGz41 2; have hfz41_3 := blk_frozen HGz41 3; clear HGz41 hgz41))
         go_roundg k1
         case measure => have := HK1.out; omega
         case rel => exact ⟨(Go.bits .or .u64 x6_1 (IntKind.u64.wrap ((IntKind.u64.wrap (Go.bits .and .u8 t101 127)) * 2 ^ x7_1.toNat))), (wrap64 (x7_1 + 7)), (t102), (t103), (t104), (by first | rfl | (simp; done) | (simp [*]; done)), (by first | rfl | (simp; done) | (simp [*]; done)), H', ⟨by have := HK1.out; omega⟩, ⟨by repeat (first | (with_reducible first | exact HI0.out | apply IsS65.alloc | apply IsS65.drewN | apply IsS65.drew | apply IsS65.set_1 | apply IsS65.set_2 | apply IsS65.set_3) | exact HI0.out)⟩, ⟨by repeat (first | (with_reducible first | exact HK.out | apply KeepBut.set_ | apply keep_drewN | apply keep_drew | apply keep_alloc) | exact HK.out)⟩, ⟨by repeat (first | (with_reducible first | exact HB.out | apply below_alloc | apply pw_below_drewN | apply below_drew1 | refine below_set ?_ (IsS65.ge HI0.out)) | exact HB.out)⟩⟩
      ·rw [if_neg c8] at H
       exact absurd H (by simp)
     ·rw [if_neg c7] at H
      exact absurd H (by simp)
    ·rw [if_neg c6] at H
     have c6b0 : (t103 == 0) = false := beq_eq_false_iff_ne.mpr c6
     have c6b1 : (t103 != 0) = true := bne_iff_ne.mpr c6
     simp only [Option.some.injEq, Prod.mk.injEq] at H
     obtain ⟨rfl, rfl, rfl, rfl⟩ := H
     obtain ⟨ASz42_0, cSz42_0, HGz42, hgz42, ⟨HSz42_0, HTz42_0⟩⟩ := HI0.out
     have hcz42_0 := cellS65_0 HGz42
     have hcz42_1 := cellS65_1 HGz42
     have hcz42_2 := cellS65_2 HGz42
     have hcz42_3 := cellS65_3 HGz42
     have hfz42_1 := blk_frozen HGz42 1
     have hfz42_2 := blk_frozen HGz42 2
     have hfz42_3 := blk_frozen HGz42 3
     clear HGz42 hgz42
     go_wp2_with (first | ((with_reducible refine gate_callee (f := 44) rfl ?_); refine goesL_ (some 21) rfl rfl Try.func44 (by kernel_rfl) rfl #[.pointer (some ⟨g, 0, none⟩), .func (.func 53) #[] #[]] rfl (by (try simp only [List.map_toArray, List.map_cons, List.map_nil]); first | done | rfl | (simp only [List.length_drop, List.length_take]; rfl)) ?_; (with_reducible refine (octetN.calls g s0_0 x1001_1 x1002_1 x1003_1  t101 t102 t103 t104 w0 _ ?side1 ?side2 A5.out).mono ?_); (case side1 => repeat (first | (with_reducible first | exact HI0.out | apply IsS65.alloc | apply IsS65.drewN | apply IsS65.drew | apply IsS65.set_1 | apply IsS65.set_2 | apply IsS65.set_3) | exact HI0.out)); (case side2 => repeat (first | (with_reducible first | exact HB.out | apply below_alloc | apply pw_below_drewN | apply below_drew1 | refine below_set ?_ (IsS65.ge HI0.out)) | exact HB.out)); rintro e w43 ⟨rfl, hi, hb, hk⟩; refine ⟨_, rfl, ?_⟩; have n0_ := Aside0.mk (KeepBut.trans (by repeat (first | (with_reducible first | exact HK.out | apply KeepBut.set_ | apply keep_drewN | apply keep_drew | apply keep_alloc) | exact HK.out)) hk (.inl rfl)); have n1_ := Aside0.mk (hb); have n2_ := Aside0.mk (hi); clear HK; clear HB; clear HI0; have HK := n0_; have HB := n1_; have HI0 := n2_; clear n0_ n1_ n2_; (try clear hb); (try clear hb2); (try clear hk); (try clear hi); obtain ⟨ASz44_0, cSz44_0, HGz44, hgz44, ⟨HSz44_0, HTz44_0⟩⟩ := HI0.out; have hcz44_0 := cellS65_0 HGz44; have hcz44_1 := cellS65_1 HGz44; have hcz44_2 := cellS65_2 HGz44; have hcz44_3 := cellS65_3 HGz44; have hfz44_1 := blk_frozen HGz44 1; have hfz44_2 := blk_frozen HGz44 2; have hfz44_3 := blk_frozen HGz44 3; clear HGz44 hgz44))
     go_ret
     exact ⟨by first | rfl | (simp [errW_none, errW_some] <;> rfl) | (simp [*, errW_none, errW_some] <;> rfl), by repeat (first | (with_reducible first | exact HI0.out | apply IsS65.alloc | apply IsS65.drewN | apply IsS65.drew | apply IsS65.set_1 | apply IsS65.set_2 | apply IsS65.set_3) | exact HI0.out), by repeat (first | (with_reducible first | exact HB.out | apply below_alloc | apply pw_below_drewN | apply below_drew1 | refine below_set ?_ (IsS65.ge HI0.out)) | exact HB.out), by repeat (first | (with_reducible first | exact HK.out | apply KeepBut.set_ | apply keep_drewN | apply keep_drew | apply keep_alloc) | exact HK.out)⟩
   ·rw [if_neg c4] at H
    have c4b0 : (x1002_1 == 0) = false := beq_eq_false_iff_ne.mpr c4
    have c4b1 : (x1002_1 != 0) = true := bne_iff_ne.mpr c4
    simp only [Option.some.injEq, Prod.mk.injEq] at H
    obtain ⟨rfl, rfl, rfl, rfl⟩ := H
    obtain ⟨ASz45_0, cSz45_0, HGz45, hgz45, ⟨HSz45_0, HTz45_0⟩⟩ := HI0.out
    have hcz45_0 := cellS65_0 HGz45
    have hcz45_1 := cellS65_1 HGz45
    have hcz45_2 := cellS65_2 HGz45
    have hcz45_3 := cellS65_3 HGz45
    have hfz45_1 := blk_frozen HGz45 1
    have hfz45_2 := blk_frozen HGz45 2
    have hfz45_3 := blk_frozen HGz45 3
    clear HGz45 hgz45
    go_wp2
    go_ret
    exact ⟨by first | rfl | (simp [errW_none, errW_some] <;> rfl) | (simp [*, errW_none, errW_some] <;> rfl), by repeat (first | (with_reducible first | exact HI0.out | apply IsS65.alloc | apply IsS65.drewN | apply IsS65.drew | apply IsS65.set_1 | apply IsS65.set_2 | apply IsS65.set_3) | exact HI0.out), by repeat (first | (with_reducible first | exact HB.out | apply below_alloc | apply pw_below_drewN | apply below_drew1 | refine below_set ?_ (IsS65.ge HI0.out)) | exact HB.out), by repeat (first | (with_reducible first | exact HK.out | apply KeepBut.set_ | apply keep_drewN | apply keep_drew | apply keep_alloc) | exact HK.out)⟩

end Go.Proofs.Ytmhmappdohddeaa.H
