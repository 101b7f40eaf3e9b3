-- WRITTEN BY A PROGRAM OF THIS SESSION (hprint.py, compress.py), out of the translation. Lean checks it.
import Derived.Test.YtmhmappdohddeaaHx0
import Derived.Test.YtmhmappdohddeaaWStep
import Derived.Test.YtmhmappdohddeaaWMore
import Derived.Test.YtmhmappdohddeaaWByte
import Derived.Test.YtmhmappdohddeaaHcodeDecode
namespace Go.Proofs.Ytmhmappdohddeaa.H
open Go.RowKit Go.Proofs.YtmhmappdohddeaaW.PrintWords Go.Proofs.YtmhmappdohddeaaW.PrintLast Go.Proofs.YtmhmappdohddeaaW.PrintMore
attribute [local go_sem] max2_int min2_int max_two min_two max_three min_three max_four min_four   -- for this text's walks alone
set_option linter.unusedVariables false
set_option linter.unusedSimpArgs false

/-! ### vouchlaw21_wrong: function 22 -/
def vouchlaw21_wrong.f (k : Nat) (a0 : ByteArray) (a1 : Int) (a2 : Int) : Option (Bool) := if (a0.size : Int) ≤ 9223372036854775807 then ((code_Decode.f k (numsOf a0)).bind fun bt105 => (if (bt105.2.2.1.length : Int) = 0 then (if bt105.2.2.2.2.1 = a2 then (some (bt105.2.2.2.2.2 == a1)) else (some false)) else (some false))) else (none)
theorem vouchlaw21_wrong.mono : ∀ a0 a1 a2 k, LeO (vouchlaw21_wrong.f k a0 a1 a2) (vouchlaw21_wrong.f (k + 1) a0 a1 a2) := by
 intro a0 a1 a2 k
 unfold vouchlaw21_wrong.f
 repeat' first
   | (with_reducible exact code_Decode.mono _ _)
   | (with_reducible exact LeO.refl _)
   | (with_reducible exact LeO.none _)
   | (with_reducible refine LeO.ite ?_ ?_)
   | (with_reducible refine LeO.bind ?_ (fun _ => ?_))
   | exact code_Decode.mono _ _
   | exact LeO.none _
   | refine LeO.ite ?_ ?_
   | refine LeO.bind ?_ (fun _ => ?_)
set_option maxHeartbeats 8000000 in
set_option maxRecDepth 100000 in
theorem vouchlaw21_wrong.calls (k : Nat) (a0 : ByteArray) (a1 : Int) (a2 : Int) (r : Bool) (w : World) (h : vouchlaw21_wrong.f k a0 a1 a2 = some r) :
  Calls Try.prog 22 #[.string a0, .int .i64 a1, .int .i64 a2] w fun e w' => e = .returned (.bool r) ∧ Below w.heap.size w w' := by
 have hu25 := Try.underlying25
 have HB := Aside0.mk (Below.refl w.heap.size w)
 have H : (if (a0.size : Int) ≤ 9223372036854775807 then ((code_Decode.f k (numsOf a0)).bind fun bt105 => (if (bt105.2.2.1.length : Int) = 0 then (if bt105.2.2.2.2.1 = a2 then (some (bt105.2.2.2.2.2 == a1)) else (some false)) else (some false))) else (none)) = some r := h
 clear h
 by_cases c4 : (a0.size : Int) ≤ 9223372036854775807
 ·rw [if_pos c4] at H
  have c4b0 := eq_true c4
  have c4b1 : decide ((a0.size : Int) ≤ 9223372036854775807) = true := decide_eq_true c4
  try have c4b2 : (9223372036854775807 < (a0.size : Int)) = False := eq_false (Nat.not_lt.2 c4)
  clear c4
  obtain ⟨y101, hy101⟩ : ∃ y_ : List Int, y_ = (numsOf a0) := ⟨_, rfl⟩
  replace H : ((code_Decode.f k y101).bind fun bt105 => (if (bt105.2.2.1.length : Int) = 0 then (if bt105.2.2.2.2.1 = a2 then (some (bt105.2.2.2.2.2 == a1)) else (some false)) else (some false))) = some r := by first | (rw [hy101]; with_reducible exact H) | (have H2_ := (Option.bind_some _ _).symm.trans H; rw [hy101]; with_reducible exact H2_) | (have H2_ := (Option.bind_some _ _).symm.trans H; with_reducible exact H2_) | with_reducible exact H | (rw [hy101]; exact H) | exact H
  have Ny101 := Aside0.mk hy101
  clear hy101
  replace H := Option.bind_eq_some_iff.mp H
  obtain ⟨⟨t105, t106, t109, t112, t113, t114⟩, A50, H⟩ := H
  replace H : (if (t109.length : Int) = 0 then (if t113 = a2 then (some (t114 == a1)) else (some false)) else (some false)) = some r := H
  have A5 := Aside0.mk A50
  clear A50
  by_cases c6 : (t109.length : Int) = 0
  ·rw [if_pos c6] at H
   have c6b0 : ((t109.length : Int) == 0) = true := beq_iff_eq.mpr c6
   have c6b1 : ((t109.length : Int) != 0) = false := bne_eq_false_iff_eq.mpr c6
   clear c6
   by_cases c7 : t113 = a2
   ·rw [if_pos c7] at H
    have c7b0 : (t113 == a2) = true := beq_iff_eq.mpr c7
    have c7b1 : (t113 != a2) = false := bne_eq_false_iff_eq.mpr c7
    clear c7
    obtain rfl := Option.some.inj H
    go_enter Try.func22, Try.ntmps22
    go_wp2_with (first | ((with_reducible refine gate_dst (N := 12) rfl ?_); refine Kd.bytes_new rfl (N := 12) rfl 9 27 5 _ rfl a0 rfl Try.underlying9 Try.underlying27 Try.underlying5 (of_decide_eq_true (by first | (with_reducible assumption) | assumption)) y101 Ny101.out ?_; intro Ab8 cb8 w9 hr hc hb; have n0_ := Aside0.mk (below_step (bl HB) hb); have n1_ := Aside0.mk (hr); have n2_ := Aside0.mk (hc); clear HB; have HB := n0_; have HR104 := n1_; have HC104 := n2_; clear n0_ n1_ n2_; clear hb hr hc) | ((with_reducible refine gate_callee (f := 20) rfl ?_); refine goesL_ (some 13) rfl rfl Try.func20 (by kernel_rfl) rfl #[.slice Ab8 y101.length cb8] rfl (by (try simp only [List.map_toArray, List.map_cons, List.map_nil]); first | done | rfl | (simp only [List.length_drop, List.length_take]; rfl)) ?_; (with_reducible refine (code_Decode.calls k _ _ y101 t105 t106 t109 t112 t113 t114 _ ?side1 ?side2 A5.out).mono ?_); (case side1 => repeat (first | exact (by repeat (first | (with_reducible exact HR104.out) | (with_reducible refine Kd.C_alloc ?_ _) | (with_reducible refine Kd.C_drewN ?_ _) | (with_reducible refine Kd.C_drew ?_) | exact HR104.out)) | (with_reducible refine Kd.C_alloc ?_ _) | (with_reducible refine Kd.C_drewN ?_ _) | (with_reducible refine Kd.C_drew ?_))); (case side2 => exact HC104.out); rintro e w10 ⟨v107, v110, rfl, ho0, ho1, hb⟩; refine ⟨_, rfl, ?_⟩; have n0_ := Aside0.mk (Kd.R_lower ho0 (below_size (bl HB))); have n1_ := Aside0.mk (Kd.R_lower ho1 (below_size (bl HB))); have n2_ := Aside0.mk (Kd.C_below (by repeat (first | (with_reducible exact HR104.out) | (with_reducible refine Kd.C_alloc ?_ _) | (with_reducible refine Kd.C_drewN ?_ _) | (with_reducible refine Kd.C_drew ?_) | exact HR104.out)) hb); have n3_ := Aside0.mk (below_step (bl HB) hb); clear HR104; clear HB; have HO108 := n0_; have HO111 := n1_; have HR104 := n2_; have HB := n3_; clear n0_ n1_ n2_ n3_; (try clear hb); (try clear hb2); (try clear hk); (try clear hi); (try clear ho0); (try clear ho1)) | ((with_reducible refine gate_dst (N := 7) rfl ?_); refine box_event ?hg (N := 7) ?hd (cs := #[.int .u8 0, .slice none 0 0, .slice none 0 0, .int .i64 0]) (t := 25) ?hr ?_; (case hd => rfl); (case hg => rfl); (case hr => first | (go_simp; done) | (go_simp; rfl)); intro gb115 hg w11 hbox hb; have n0_ := Aside0.mk (Kd.R_below (kr HO108) hb); have n1_ := Aside0.mk (Kd.R_below (kr HO111) hb); have n2_ := Aside0.mk (Kd.C_below (by repeat (first | (with_reducible exact HR104.out) | (with_reducible refine Kd.C_alloc ?_ _) | (with_reducible refine Kd.C_drewN ?_ _) | (with_reducible refine Kd.C_drew ?_) | exact HR104.out)) hb); have n3_ := Aside0.mk (below_step (bl HB) hb); have n4_ := Aside0.mk (hbox); have n5_ := Aside0.mk ((by rw [hg]; exact (below_size (bl HB)) : w.heap.size ≤ gb115)); have n6_ := Aside0.mk ((by rw [hg]; exact (below_size (bl HB)) : w.heap.size ≤ gb115)); clear HO108; clear HO111; clear HR104; clear HB; have HO108 := n0_; have HO111 := n1_; have HR104 := n2_; have HB := n3_; have BK115 := n4_; have GW115 := n5_; have GE115 := n6_; clear n0_ n1_ n2_ n3_ n4_ n5_ n6_; clear hb hbox hg; have hcz12_0 : w11.cell? ⟨gb115, 0, none⟩ = some (.int .u8 0) := (blk_cell BK115.out 0).trans rfl; have hcz12_1 : w11.cell? ⟨gb115, 1, none⟩ = some (.slice none 0 0) := (blk_cell BK115.out 1).trans rfl; have hcz12_2 : w11.cell? ⟨gb115, 2, none⟩ = some (.slice none 0 0) := (blk_cell BK115.out 2).trans rfl; have hcz12_3 : w11.cell? ⟨gb115, 3, none⟩ = some (.int .i64 0) := (blk_cell BK115.out 3).trans rfl; have hfz12_0 := blk_frozen BK115.out 0; have hfz12_1 := blk_frozen BK115.out 1; have hfz12_2 := blk_frozen BK115.out 2; have hfz12_3 := blk_frozen BK115.out 3; obtain ⟨Ao13, co13, eo13⟩ := Kd.R_slice HO108.out; subst eo13; obtain ⟨Ao14, co14, eo14⟩ := Kd.R_slice HO111.out; subst eo14))
    go_ret
    exact ⟨by first | rfl | (simp [errW_none, errW_some] <;> rfl) | (simp [*, errW_none, errW_some] <;> rfl), by repeat (first | (with_reducible first | exact HB.out | apply below_alloc | apply pw_below_drewN | apply below_drew1 | refine below_set ?_ GE115.out) | exact HB.out)⟩
   ·rw [if_neg c7] at H
    have c7b0 : (t113 == a2) = false := beq_eq_false_iff_ne.mpr c7
    have c7b1 : (t113 != a2) = true := bne_iff_ne.mpr c7
    obtain rfl := Option.some.inj H
    go_enter Try.func22, Try.ntmps22
    go_wp2_with (first | ((with_reducible refine gate_dst (N := 12) rfl ?_); refine Kd.bytes_new rfl (N := 12) rfl 9 27 5 _ rfl a0 rfl Try.underlying9 Try.underlying27 Try.underlying5 (of_decide_eq_true (by first | (with_reducible assumption) | assumption)) y101 Ny101.out ?_; intro Ab15 cb15 w16 hr hc hb; have n0_ := Aside0.mk (below_step (bl HB) hb); have n1_ := Aside0.mk (hr); have n2_ := Aside0.mk (hc); clear HB; have HB := n0_; have HR104 := n1_; have HC104 := n2_; clear n0_ n1_ n2_; clear hb hr hc) | ((with_reducible refine gate_callee (f := 20) rfl ?_); refine goesL_ (some 13) rfl rfl Try.func20 (by kernel_rfl) rfl #[.slice Ab15 y101.length cb15] rfl (by (try simp only [List.map_toArray, List.map_cons, List.map_nil]); first | done | rfl | (simp only [List.length_drop, List.length_take]; rfl)) ?_; (with_reducible refine (code_Decode.calls k _ _ y101 t105 t106 t109 t112 t113 t114 _ ?side1 ?side2 A5.out).mono ?_); (case side1 => repeat (first | exact (by repeat (first | (with_reducible exact HR104.out) | (with_reducible refine Kd.C_alloc ?_ _) | (with_reducible refine Kd.C_drewN ?_ _) | (with_reducible refine Kd.C_drew ?_) | exact HR104.out)) | (with_reducible refine Kd.C_alloc ?_ _) | (with_reducible refine Kd.C_drewN ?_ _) | (with_reducible refine Kd.C_drew ?_))); (case side2 => exact HC104.out); rintro e w17 ⟨v107, v110, rfl, ho0, ho1, hb⟩; refine ⟨_, rfl, ?_⟩; have n0_ := Aside0.mk (Kd.R_lower ho0 (below_size (bl HB))); have n1_ := Aside0.mk (Kd.R_lower ho1 (below_size (bl HB))); have n2_ := Aside0.mk (Kd.C_below (by repeat (first | (with_reducible exact HR104.out) | (with_reducible refine Kd.C_alloc ?_ _) | (with_reducible refine Kd.C_drewN ?_ _) | (with_reducible refine Kd.C_drew ?_) | exact HR104.out)) hb); have n3_ := Aside0.mk (below_step (bl HB) hb); clear HR104; clear HB; have HO108 := n0_; have HO111 := n1_; have HR104 := n2_; have HB := n3_; clear n0_ n1_ n2_ n3_; (try clear hb); (try clear hb2); (try clear hk); (try clear hi); (try clear ho0); (try clear ho1)) | ((with_reducible refine gate_dst (N := 7) rfl ?_); refine box_event ?hg (N := 7) ?hd (cs := #[.int .u8 0, .slice none 0 0, .slice none 0 0, .int .i64 0]) (t := 25) ?hr ?_; (case hd => rfl); (case hg => rfl); (case hr => first | (go_simp; done) | (go_simp; rfl)); intro gb115 hg w18 hbox hb; have n0_ := Aside0.mk (Kd.R_below (kr HO108) hb); have n1_ := Aside0.mk (Kd.R_below (kr HO111) hb); have n2_ := Aside0.mk (Kd.C_below (by repeat (first | (with_reducible exact HR104.out) | (with_reducible refine Kd.C_alloc ?_ _) | (with_reducible refine Kd.C_drewN ?_ _) | (with_reducible refine Kd.C_drew ?_) | exact HR104.out)) hb); have n3_ := Aside0.mk (below_step (bl HB) hb); have n4_ := Aside0.mk (hbox); have n5_ := Aside0.mk ((by rw [hg]; exact (below_size (bl HB)) : w.heap.size ≤ gb115)); have n6_ := Aside0.mk ((by rw [hg]; exact (below_size (bl HB)) : w.heap.size ≤ gb115)); clear HO108; clear HO111; clear HR104; clear HB; have HO108 := n0_; have HO111 := n1_; have HR104 := n2_; have HB := n3_; have BK115 := n4_; have GW115 := n5_; have GE115 := n6_; clear n0_ n1_ n2_ n3_ n4_ n5_ n6_; clear hb hbox hg; have hcz19_0 : w18.cell? ⟨gb115, 0, none⟩ = some (.int .u8 0) := (blk_cell BK115.out 0).trans rfl; have hcz19_1 : w18.cell? ⟨gb115, 1, none⟩ = some (.slice none 0 0) := (blk_cell BK115.out 1).trans rfl; have hcz19_2 : w18.cell? ⟨gb115, 2, none⟩ = some (.slice none 0 0) := (blk_cell BK115.out 2).trans rfl; have hcz19_3 : w18.cell? ⟨gb115, 3, none⟩ = some (.int .i64 0) := (blk_cell BK115.out 3).trans rfl; have hfz19_0 := blk_frozen BK115.out 0; have hfz19_1 := blk_frozen BK115.out 1; have hfz19_2 := blk_frozen BK115.out 2; have hfz19_3 := blk_frozen BK115.out 3; obtain ⟨Ao20, co20, eo20⟩ := Kd.R_slice HO108.out; subst eo20; obtain ⟨Ao21, co21, eo21⟩ := Kd.R_slice HO111.out; subst eo21))
    go_ret
    exact ⟨by first | rfl | (simp [errW_none, errW_some] <;> rfl) | (simp [*, errW_none, errW_some] <;> rfl), by repeat (first | (with_reducible first | exact HB.out | apply below_alloc | apply pw_below_drewN | apply below_drew1 | refine below_set ?_ GE115.out) | exact HB.out)⟩
  ·rw [if_neg c6] at H
   have c6b0 : ((t109.length : Int) == 0) = false := beq_eq_false_iff_ne.mpr c6
   have c6b1 : ((t109.length : Int) != 0) = true := bne_iff_ne.mpr c6
   have c6b2 : ¬ (t109 = []) := fun h_ => c6 (by rw [h_]; rfl)
   obtain rfl := Option.some.inj H
   go_enter Try.func22, Try.ntmps22
   go_wp2_with (first | ((with_reducible refine gate_dst (N := 12) rfl ?_); refine Kd.bytes_new rfl (N := 12) rfl 9 27 5 _ rfl a0 rfl Try.underlying9 Try.underlying27 Try.underlying5 (of_decide_eq_true (by first | (with_reducible assumption) | assumption)) y101 Ny101.out ?_; intro Ab22 cb22 w23 hr hc hb; have n0_ := Aside0.mk (below_step (bl HB) hb); have n1_ := Aside0.mk (hr); have n2_ := Aside0.mk (hc); clear HB; have HB := n0_; have HR104 := n1_; have HC104 := n2_; clear n0_ n1_ n2_; clear hb hr hc) | ((with_reducible refine gate_callee (f := 20) rfl ?_); refine goesL_ (some 13) rfl rfl Try.func20 (by kernel_rfl) rfl #[.slice Ab22 y101.length cb22] rfl (by (try simp only [List.map_toArray, List.map_cons, List.map_nil]); first | done | rfl | (simp only [List.length_drop, List.length_take]; rfl)) ?_; (with_reducible refine (code_Decode.calls k _ _ y101 t105 t106 t109 t112 t113 t114 _ ?side1 ?side2 A5.out).mono ?_); (case side1 => repeat (first | exact (by repeat (first | (with_reducible exact HR104.out) | (with_reducible refine Kd.C_alloc ?_ _) | (with_reducible refine Kd.C_drewN ?_ _) | (with_reducible refine Kd.C_drew ?_) | exact HR104.out)) | (with_reducible refine Kd.C_alloc ?_ _) | (with_reducible refine Kd.C_drewN ?_ _) | (with_reducible refine Kd.C_drew ?_))); (case side2 => exact HC104.out); rintro e w24 ⟨v107, v110, rfl, ho0, ho1, hb⟩; refine ⟨_, rfl, ?_⟩; have n0_ := Aside0.mk (Kd.R_lower ho0 (below_size (bl HB))); have n1_ := Aside0.mk (Kd.R_lower ho1 (below_size (bl HB))); have n2_ := Aside0.mk (Kd.C_below (by repeat (first | (with_reducible exact HR104.out) | (with_reducible refine Kd.C_alloc ?_ _) | (with_reducible refine Kd.C_drewN ?_ _) | (with_reducible refine Kd.C_drew ?_) | exact HR104.out)) hb); have n3_ := Aside0.mk (below_step (bl HB) hb); clear HR104; clear HB; have HO108 := n0_; have HO111 := n1_; have HR104 := n2_; have HB := n3_; clear n0_ n1_ n2_ n3_; (try clear hb); (try clear hb2); (try clear hk); (try clear hi); (try clear ho0); (try clear ho1)) | ((with_reducible refine gate_dst (N := 7) rfl ?_); refine box_event ?hg (N := 7) ?hd (cs := #[.int .u8 0, .slice none 0 0, .slice none 0 0, .int .i64 0]) (t := 25) ?hr ?_; (case hd => rfl); (case hg => rfl); (case hr => first | (go_simp; done) | (go_simp; rfl)); intro gb115 hg w25 hbox hb; have n0_ := Aside0.mk (Kd.R_below (kr HO108) hb); have n1_ := Aside0.mk (Kd.R_below (kr HO111) hb); have n2_ := Aside0.mk (Kd.C_below (by repeat (first | (with_reducible exact HR104.out) | (with_reducible refine Kd.C_alloc ?_ _) | (with_reducible refine Kd.C_drewN ?_ _) | (with_reducible refine Kd.C_drew ?_) | exact HR104.out)) hb); have n3_ := Aside0.mk (below_step (bl HB) hb); have n4_ := Aside0.mk (hbox); have n5_ := Aside0.mk ((by rw [hg]; exact (below_size (bl HB)) : w.heap.size ≤ gb115)); have n6_ := Aside0.mk ((by rw [hg]; exact (below_size (bl HB)) : w.heap.size ≤ gb115)); clear HO108; clear HO111; clear HR104; clear HB; have HO108 := n0_; have HO111 := n1_; have HR104 := n2_; have HB := n3_; have BK115 := n4_; have GW115 := n5_; have GE115 := n6_; clear n0_ n1_ n2_ n3_ n4_ n5_ n6_; clear hb hbox hg; have hcz26_0 : w25.cell? ⟨gb115, 0, none⟩ = some (.int .u8 0) := (blk_cell BK115.out 0).trans rfl; have hcz26_1 : w25.cell? ⟨gb115, 1, none⟩ = some (.slice none 0 0) := (blk_cell BK115.out 1).trans rfl; have hcz26_2 : w25.cell? ⟨gb115, 2, none⟩ = some (.slice none 0 0) := (blk_cell BK115.out 2).trans rfl; have hcz26_3 : w25.cell? ⟨gb115, 3, none⟩ = some (.int .i64 0) := (blk_cell BK115.out 3).trans rfl; have hfz26_0 := blk_frozen BK115.out 0; have hfz26_1 := blk_frozen BK115.out 1; have hfz26_2 := blk_frozen BK115.out 2; have hfz26_3 := blk_frozen BK115.out 3; obtain ⟨Ao27, co27, eo27⟩ := Kd.R_slice HO108.out; subst eo27; obtain ⟨Ao28, co28, eo28⟩ := Kd.R_slice HO111.out; subst eo28))
   go_ret
   exact ⟨by first | rfl | (simp [errW_none, errW_some] <;> rfl) | (simp [*, errW_none, errW_some] <;> rfl), by repeat (first | (with_reducible first | exact HB.out | apply below_alloc | apply pw_below_drewN | apply below_drew1 | refine below_set ?_ GE115.out) | exact HB.out)⟩
 ·rw [if_neg c4] at H
  exact absurd H (by simp)

end Go.Proofs.Ytmhmappdohddeaa.H
