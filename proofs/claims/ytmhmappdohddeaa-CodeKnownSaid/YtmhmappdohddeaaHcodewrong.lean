-- WRITTEN BY A PROGRAM OF THIS SESSION (hprint.py, compress.py), out of the translation. Lean checks it.
import Derived.Test.YtmhmappdohddeaaHx0
import Derived.Test.YtmhmappdohddeaaWStep
import Derived.Test.YtmhmappdohddeaaHcoderight
import Derived.Test.YtmhmappdohddeaaHcodeof
namespace Go.Proofs.Ytmhmappdohddeaa.H
open Go.RowKit Go.Proofs.YtmhmappdohddeaaW.PrintWords Go.Proofs.YtmhmappdohddeaaW.PrintLast Go.Proofs.YtmhmappdohddeaaW.PrintMore
attribute [local go_sem] max2_int min2_int max_two min_two max_three min_three max_four min_four   -- for this text's walks alone
set_option linter.unusedVariables false
set_option linter.unusedSimpArgs false

/-! ### code_wrong: function 25 -/
def code_wrong.f (k : Nat) (a0_0 : Int) (a0_1 : Int) (a0_2 : Int) : Option (Bool) := if a0_0 < 1 then (some true) else (if a0_0 > 38 then (some true) else ((code_of.f k a0_0).bind fun t102 => ((code_right.f a0_1 ((Go.bits .and .u8 t102 1) != 0)).bind fun t103 => (if t103 = true then ((code_of.f k a0_0).bind fun t104 => ((code_right.f a0_2 ((Go.bits .and .u8 t104 2) != 0)).bind fun t105 => (some (!t105)))) else (some true)))))
theorem code_wrong.mono : ∀ a0 a1 a2 k, LeO (code_wrong.f k a0 a1 a2) (code_wrong.f (k + 1) a0 a1 a2) := by
 intro a0 a1 a2 k
 unfold code_wrong.f
 repeat' first
   | (with_reducible exact code_of.mono _ _)
   | (with_reducible exact LeO.refl _)
   | (with_reducible exact LeO.none _)
   | (with_reducible refine LeO.ite ?_ ?_)
   | (with_reducible refine LeO.bind ?_ (fun _ => ?_))
   | exact code_of.mono _ _
   | exact LeO.none _
   | refine LeO.ite ?_ ?_
   | refine LeO.bind ?_ (fun _ => ?_)
def code_wrong.T1 : Bool × List (List Nat × List Nat) := (true, [([], []), ([0], [0]), ([1], [1]), ([2], [2]), ([3], [3]), ([4, 3], [3, 4]), ([5, 3], [3, 5]), ([3, 6], [3, 6]), ([7, 3], [7]), ([8], [8]), ([9, 8], [8, 9]), ([8], [8]), ([11, 8], [8, 11]), ([12, 8, 8], [8, 12]), ([13, 8], [8, 13]), ([14, 8], [8, 14]), ([10, 15, 13, 8], [8, 10, 15]), ([16, 8], [8, 16]), ([8, 17], [8, 17]), ([18, 16], [18]), ([19], [19]), ([20, 19], [19, 20]), ([19], [19]), ([22, 19], [19, 22]), ([23, 19, 19], [19, 23]), ([24, 19], [19, 24]), ([25, 19], [19, 25]), ([21, 26, 24, 19], [19, 21, 26]), ([27, 19], [19, 27]), ([19, 28], [19, 28]), ([29, 27, 0, 1, 2, 3, 4, 5, 6, 7, 8, 9, 10, 11, 12, 13, 14, 15, 16, 17, 18, 19, 20, 21, 22, 23, 24, 25, 26, 27, 28, 29], [29])])
def code_wrong.B1 : List Nat := [0, 1, 3, 7, 15, 31, 63, 127, 255, 511, 1023, 511, 2559, 6655, 14847, 31231, 65535, 131071, 262143, 524287, 1048575, 2097151, 1048575, 5242879, 13631487, 30408703, 63963135, 134217727, 268435455, 536870911, 1073741823]
theorem code_wrong.tab1 : rtab .any (opsOf Try.f25 1) = code_wrong.T1 := by kernel_rfl
theorem code_wrong.bits1 : waitsOk code_wrong.T1.2 code_wrong.B1 = true := by kernel_rfl
set_option maxHeartbeats 8000000 in
set_option maxRecDepth 100000 in
theorem code_wrong.calls (k : Nat) (a0_0 : Int) (a0_1 : Int) (a0_2 : Int) (r : Bool) (w : World) (h : code_wrong.f k a0_0 a0_1 a0_2 = some r) :
  Calls Try.prog 25 #[.agg #[.int .u8 a0_0, .int .i64 a0_1, .int .i64 a0_2]] w fun e w' => e = .returned (.bool r) ∧ Below w.heap.size w w' := by
 have hu41 := Try.underlying41
 have HB := Aside0.mk (Below.refl w.heap.size w)
 have H : (if a0_0 < 1 then (some true) else (if a0_0 > 38 then (some true) else ((code_of.f k a0_0).bind fun t102 => ((code_right.f a0_1 ((Go.bits .and .u8 t102 1) != 0)).bind fun t103 => (if t103 = true then ((code_of.f k a0_0).bind fun t104 => ((code_right.f a0_2 ((Go.bits .and .u8 t104 2) != 0)).bind fun t105 => (some (!t105)))) else (some true)))))) = some r := h
 clear h
 by_cases c2 : a0_0 < 1
 ·rw [if_pos c2] at H
  have c2b0 : decide (a0_0 < 1) = true := decide_eq_true c2
  clear c2
  obtain rfl := Option.some.inj H
  go_enter Try.func25, Try.ntmps25
  try go_wp2_with (first | ((with_reducible refine gate_dst (N := 1) rfl ?_); refine box_event ?hg (N := 1) ?hd (cs := #[.int .u8 a0_0, .int .i64 a0_1, .int .i64 a0_2]) (t := 41) ?hr ?_; (case hd => rfl); (case hg => rfl); (case hr => first | (go_simp; done) | (go_simp; rfl)); intro gb101 hg w3 hbox hb; have n0_ := Aside0.mk (below_step (bl HB) hb); have n1_ := Aside0.mk (hbox); have n2_ := Aside0.mk ((by rw [hg]; exact (below_size (bl HB)) : w.heap.size ≤ gb101)); have n3_ := Aside0.mk ((by rw [hg]; exact (below_size (bl HB)) : w.heap.size ≤ gb101)); clear HB; have HB := n0_; have BK101 := n1_; have GW101 := n2_; have GE101 := n3_; clear n0_ n1_ n2_ n3_; clear hb hbox hg))
  have n0_ := Aside0.mk (blk_drew BK101.out)
  have n1_ := Aside0.mk (below_drew1 HB.out)
  clear BK101
  clear HB
  have BK101 := n0_
  have HB := n1_
  clear n0_ n1_
  refine start_ (n := 31) (S := fun w' => w'.cell? ⟨gb101, 0, none⟩ = some (.int .u8 a0_0) ∧ w'.cell? ⟨gb101, 1, none⟩ = some (.int .i64 a0_1) ∧ w'.cell? ⟨gb101, 2, none⟩ = some (.int .i64 a0_2)) (ds := []) #[false, false, false, false, false, false, false, false, false, false, false, false, false, false, false, false, false, false, false, false, false, false, false, false, false, false, false, false, false, false, false] (by kernel_rfl) rfl rfl ⟨(blk_cell BK101.out 0).trans rfl, (blk_cell BK101.out 1).trans rfl, (blk_cell BK101.out 2).trans rfl⟩ (fun hHeld => ?_); refine with_tabW code_wrong.tab1 code_wrong.bits1 (fun HT_ HW_ => ?_)
  generalize w3.drew = w4 at BK101 HB hHeld ⊢
  refine pu 0 (some 3) ?_; refine tk 1 (some 4) hHeld ?_; refine pu 2 (some 5) ?_; refine pu 3 (some 6) ?_; refine pz 4 (some 7) ?_; refine pz 5 (some 8) ?_; refine pz 6 (some 9) ?_; refine pu 7 (some 10) ?_; refine pu 8 (some 11) ?_; refine pz 9 (some 12) ?_; refine pz 10 (some 13) ?_; refine pz 11 (some 14) ?_; refine pz 12 (some 15) ?_; refine pz 13 (some 16) ?_; refine pz 14 (some 17) ?_; refine pz 15 (some 18) ?_; refine pz 16 (some 19) ?_; refine pz 17 (some 20) ?_; refine pu 18 (some 21) ?_; refine pu 19 (some 22) ?_; refine pz 20 (some 23) ?_; refine pz 21 (some 24) ?_; refine pz 22 (some 25) ?_; refine pz 23 (some 26) ?_; refine pz 24 (some 27) ?_; refine pz 25 (some 28) ?_; refine pz 26 (some 29) ?_; refine pz 27 (some 30) ?_; refine pz 28 (some 31) ?_; refine pu 29 (some 32) ?_; refine pu 30 (some 2) ?_
  refine done_ (done_of HT_.out (by kernel_rfl)) ?_
  try go_wp2
  go_ret
  exact ⟨by first | rfl | (simp [errW_none, errW_some] <;> rfl) | (simp [*, errW_none, errW_some] <;> rfl), by repeat (first | (with_reducible first | exact HB.out | apply below_alloc | apply pw_below_drewN | apply below_drew1 | refine below_set ?_ GE101.out) | exact HB.out)⟩
 ·rw [if_neg c2] at H
  have c2b0 : decide (a0_0 < 1) = false := decide_eq_false c2
  clear c2
  by_cases c5 : a0_0 > 38
  ·rw [if_pos c5] at H
   have c5b0 : decide (38 < a0_0) = true := decide_eq_true c5
   clear c5
   obtain rfl := Option.some.inj H
   go_enter Try.func25, Try.ntmps25
   try go_wp2_with (first | ((with_reducible refine gate_dst (N := 1) rfl ?_); refine box_event ?hg (N := 1) ?hd (cs := #[.int .u8 a0_0, .int .i64 a0_1, .int .i64 a0_2]) (t := 41) ?hr ?_; (case hd => rfl); (case hg => rfl); (case hr => first | (go_simp; done) | (go_simp; rfl)); intro gb101 hg w6 hbox hb; have n0_ := Aside0.mk (below_step (bl HB) hb); have n1_ := Aside0.mk (hbox); have n2_ := Aside0.mk ((by rw [hg]; exact (below_size (bl HB)) : w.heap.size ≤ gb101)); have n3_ := Aside0.mk ((by rw [hg]; exact (below_size (bl HB)) : w.heap.size ≤ gb101)); clear HB; have HB := n0_; have BK101 := n1_; have GW101 := n2_; have GE101 := n3_; clear n0_ n1_ n2_ n3_; clear hb hbox hg))
   have n0_ := Aside0.mk (blk_drew BK101.out)
   have n1_ := Aside0.mk (below_drew1 HB.out)
   clear BK101
   clear HB
   have BK101 := n0_
   have HB := n1_
   clear n0_ n1_
   refine start_ (n := 31) (S := fun w' => w'.cell? ⟨gb101, 0, none⟩ = some (.int .u8 a0_0) ∧ w'.cell? ⟨gb101, 1, none⟩ = some (.int .i64 a0_1) ∧ w'.cell? ⟨gb101, 2, none⟩ = some (.int .i64 a0_2)) (ds := []) #[false, false, false, false, false, false, false, false, false, false, false, false, false, false, false, false, false, false, false, false, false, false, false, false, false, false, false, false, false, false, false] (by kernel_rfl) rfl rfl ⟨(blk_cell BK101.out 0).trans rfl, (blk_cell BK101.out 1).trans rfl, (blk_cell BK101.out 2).trans rfl⟩ (fun hHeld => ?_); refine with_tabW code_wrong.tab1 code_wrong.bits1 (fun HT_ HW_ => ?_)
   generalize w6.drew = w7 at BK101 HB hHeld ⊢
   refine pu 0 (some 3) ?_; refine tk 1 (some 4) hHeld ?_; refine pu 2 (some 5) ?_; refine pu 3 (some 6) ?_; refine pu 4 (some 7) ?_; refine tk 5 (some 8) hHeld ?_; refine pu 6 (some 9) ?_; refine pu 7 (some 10) ?_; refine pu 8 (some 11) ?_; refine pz 9 (some 12) ?_; refine pz 10 (some 13) ?_; refine pz 11 (some 14) ?_; refine pz 12 (some 15) ?_; refine pz 13 (some 16) ?_; refine pz 14 (some 17) ?_; refine pz 15 (some 18) ?_; refine pz 16 (some 19) ?_; refine pz 17 (some 20) ?_; refine pu 18 (some 21) ?_; refine pu 19 (some 22) ?_; refine pz 20 (some 23) ?_; refine pz 21 (some 24) ?_; refine pz 22 (some 25) ?_; refine pz 23 (some 26) ?_; refine pz 24 (some 27) ?_; refine pz 25 (some 28) ?_; refine pz 26 (some 29) ?_; refine pz 27 (some 30) ?_; refine pz 28 (some 31) ?_; refine pu 29 (some 32) ?_; refine pu 30 (some 2) ?_
   refine done_ (done_of HT_.out (by kernel_rfl)) ?_
   try go_wp2
   go_ret
   exact ⟨by first | rfl | (simp [errW_none, errW_some] <;> rfl) | (simp [*, errW_none, errW_some] <;> rfl), by repeat (first | (with_reducible first | exact HB.out | apply below_alloc | apply pw_below_drewN | apply below_drew1 | refine below_set ?_ GE101.out) | exact HB.out)⟩
  ·rw [if_neg c5] at H
   have c5b0 : decide (38 < a0_0) = false := decide_eq_false c5
   clear c5
   replace H := Option.bind_eq_some_iff.mp H
   obtain ⟨t102, A80, H⟩ := H
   replace H : ((code_right.f a0_1 ((Go.bits .and .u8 t102 1) != 0)).bind fun t103 => (if t103 = true then ((code_of.f k a0_0).bind fun t104 => ((code_right.f a0_2 ((Go.bits .and .u8 t104 2) != 0)).bind fun t105 => (some (!t105)))) else (some true))) = some r := H
   have A8 := Aside0.mk A80
   clear A80
   replace H := Option.bind_eq_some_iff.mp H
   obtain ⟨t103, A90, H⟩ := H
   replace H : (if t103 = true then ((code_of.f k a0_0).bind fun t104 => ((code_right.f a0_2 ((Go.bits .and .u8 t104 2) != 0)).bind fun t105 => (some (!t105)))) else (some true)) = some r := H
   have A9 := Aside0.mk A90
   clear A90
   by_cases c10 : t103 = true
   ·subst c10
    have H1 : ((code_of.f k a0_0).bind fun t104 => ((code_right.f a0_2 ((Go.bits .and .u8 t104 2) != 0)).bind fun t105 => (some (!t105)))) = some r := by rw [if_pos rfl] at H; exact H
    clear H
    have H := H1
    clear H1
    replace H := Option.bind_eq_some_iff.mp H
    obtain ⟨t104, A110, H⟩ := H
    replace H : ((code_right.f a0_2 ((Go.bits .and .u8 t104 2) != 0)).bind fun t105 => (some (!t105))) = some r := H
    have A11 := Aside0.mk A110
    clear A110
    replace H := Option.bind_eq_some_iff.mp H
    obtain ⟨t105, A120, H⟩ := H
    replace H : (some (!t105)) = some r := H
    have A12 := Aside0.mk A120
    clear A120
    obtain rfl := Option.some.inj H
    go_enter Try.func25, Try.ntmps25
    try go_wp2_with (first | ((with_reducible refine gate_dst (N := 1) rfl ?_); refine box_event ?hg (N := 1) ?hd (cs := #[.int .u8 a0_0, .int .i64 a0_1, .int .i64 a0_2]) (t := 41) ?hr ?_; (case hd => rfl); (case hg => rfl); (case hr => first | (go_simp; done) | (go_simp; rfl)); intro gb101 hg w13 hbox hb; have n0_ := Aside0.mk (below_step (bl HB) hb); have n1_ := Aside0.mk (hbox); have n2_ := Aside0.mk ((by rw [hg]; exact (below_size (bl HB)) : w.heap.size ≤ gb101)); have n3_ := Aside0.mk ((by rw [hg]; exact (below_size (bl HB)) : w.heap.size ≤ gb101)); clear HB; have HB := n0_; have BK101 := n1_; have GW101 := n2_; have GE101 := n3_; clear n0_ n1_ n2_ n3_; clear hb hbox hg))
    have n0_ := Aside0.mk (blk_drew BK101.out)
    have n1_ := Aside0.mk (below_drew1 HB.out)
    clear BK101
    clear HB
    have BK101 := n0_
    have HB := n1_
    clear n0_ n1_
    refine start_ (n := 31) (S := fun w' => w'.cell? ⟨gb101, 0, none⟩ = some (.int .u8 a0_0) ∧ w'.cell? ⟨gb101, 1, none⟩ = some (.int .i64 a0_1) ∧ w'.cell? ⟨gb101, 2, none⟩ = some (.int .i64 a0_2)) (ds := []) #[false, false, false, false, false, false, false, false, false, false, false, false, false, false, false, false, false, false, false, false, false, false, false, false, false, false, false, false, false, false, false] (by kernel_rfl) rfl rfl ⟨(blk_cell BK101.out 0).trans rfl, (blk_cell BK101.out 1).trans rfl, (blk_cell BK101.out 2).trans rfl⟩ (fun hHeld => ?_); refine with_tabW code_wrong.tab1 code_wrong.bits1 (fun HT_ HW_ => ?_)
    generalize w13.drew = w14 at BK101 HB hHeld ⊢
    refine pu 0 (some 3) ?_; refine tk 1 (some 4) hHeld ?_; refine pu 2 (some 5) ?_; refine pu 3 (some 6) ?_; refine pu 4 (some 7) ?_; refine tk 5 (some 8) hHeld ?_; refine pu 6 (some 9) ?_; refine pu 7 (some 10) ?_; refine pu 8 (some 11) ?_; refine pu 9 (some 12) ?_; refine pu 11 (some 14) ?_; refine tk 10 (some 13) hHeld ?_; refine tk 12 (some 15) hHeld ?_
    refine on_ 13 (some 16) (fun K hK => ?_)
    refine goes_ Try.func49 (by kernel_rfl) rfl #[.int .u8 a0_0] (by rfl) rfl rfl (by (try simp only [List.map_toArray, List.map_cons, List.map_nil]); first | done | rfl | (simp only [List.length_drop, List.length_take]; rfl)) ?_
    with_reducible refine (code_of.calls k a0_0 t102 _ A8.out).mono ?_
    rintro e w' ⟨rfl, ⟨nd, rfl⟩⟩
    refine ⟨_, rfl, ?_⟩
    refine hK.out _ _ ⟨(blk_cell BK101.out 0).trans rfl, (blk_cell BK101.out 1).trans rfl, (blk_cell BK101.out 2).trans rfl⟩ (fun hHeld => ?_)
    clear hK K
    refine norm_ (a' := ?_) ?_ ?_
    rotate_left
    ·show Act.put _ (some 16) _ = _
     simp only [Act.put, List.setIfInBounds_toArray, List.set_cons_zero, List.set_cons_succ, i64_w, i32_w]
     rfl
    refine pu 14 (some 17) ?_; refine pu 15 (some 18) ?_
    refine on_ 16 (some 19) (fun K hK => ?_)
    refine goes_ Try.func23 (by kernel_rfl) rfl #[.int .i64 a0_1, .bool ((Go.bits .and .u8 t102 1) != 0)] (by rfl) rfl rfl (by (try simp only [List.map_toArray, List.map_cons, List.map_nil]); first | done | rfl | (simp only [List.length_drop, List.length_take]; rfl)) ?_
    with_reducible refine (code_right.calls a0_1 ((Go.bits .and .u8 t102 1) != 0) true _ A9.out).mono ?_
    rintro e w' ⟨rfl, ⟨nd, rfl⟩⟩
    refine ⟨_, rfl, ?_⟩
    refine hK.out _ _ ⟨(blk_cell BK101.out 0).trans rfl, (blk_cell BK101.out 1).trans rfl, (blk_cell BK101.out 2).trans rfl⟩ (fun hHeld => ?_)
    clear hK K
    refine norm_ (a' := ?_) ?_ ?_
    rotate_left
    ·show Act.put _ (some 19) _ = _
     simp only [Act.put, List.setIfInBounds_toArray, List.set_cons_zero, List.set_cons_succ, i64_w, i32_w]
     rfl
    refine pu 17 (some 20) ?_; refine pu 18 (some 21) ?_; refine pu 19 (some 22) ?_; refine pu 20 (some 23) ?_; refine pu 22 (some 25) ?_; refine tk 21 (some 24) hHeld ?_; refine tk 23 (some 26) hHeld ?_
    refine on_ 24 (some 27) (fun K hK => ?_)
    refine goes_ Try.func49 (by kernel_rfl) rfl #[.int .u8 a0_0] (by rfl) rfl rfl (by (try simp only [List.map_toArray, List.map_cons, List.map_nil]); first | done | rfl | (simp only [List.length_drop, List.length_take]; rfl)) ?_
    with_reducible refine (code_of.calls k a0_0 t104 _ A11.out).mono ?_
    rintro e w' ⟨rfl, ⟨nd, rfl⟩⟩
    refine ⟨_, rfl, ?_⟩
    refine hK.out _ _ ⟨(blk_cell BK101.out 0).trans rfl, (blk_cell BK101.out 1).trans rfl, (blk_cell BK101.out 2).trans rfl⟩ (fun hHeld => ?_)
    clear hK K
    refine norm_ (a' := ?_) ?_ ?_
    rotate_left
    ·show Act.put _ (some 27) _ = _
     simp only [Act.put, List.setIfInBounds_toArray, List.set_cons_zero, List.set_cons_succ, i64_w, i32_w]
     rfl
    refine pu 25 (some 28) ?_; refine pu 26 (some 29) ?_
    refine on_ 27 (some 30) (fun K hK => ?_)
    refine goes_ Try.func23 (by kernel_rfl) rfl #[.int .i64 a0_2, .bool ((Go.bits .and .u8 t104 2) != 0)] (by rfl) rfl rfl (by (try simp only [List.map_toArray, List.map_cons, List.map_nil]); first | done | rfl | (simp only [List.length_drop, List.length_take]; rfl)) ?_
    with_reducible refine (code_right.calls a0_2 ((Go.bits .and .u8 t104 2) != 0) t105 _ A12.out).mono ?_
    rintro e w' ⟨rfl, ⟨nd, rfl⟩⟩
    refine ⟨_, rfl, ?_⟩
    refine hK.out _ _ ⟨(blk_cell BK101.out 0).trans rfl, (blk_cell BK101.out 1).trans rfl, (blk_cell BK101.out 2).trans rfl⟩ (fun hHeld => ?_)
    clear hK K
    refine norm_ (a' := ?_) ?_ ?_
    rotate_left
    ·show Act.put _ (some 30) _ = _
     simp only [Act.put, List.setIfInBounds_toArray, List.set_cons_zero, List.set_cons_succ, i64_w, i32_w]
     rfl
    refine pu 28 (some 31) ?_; refine pu 29 (some 32) ?_; refine pu 30 (some 2) ?_
    refine done_ (done_of HT_.out (by kernel_rfl)) ?_
    try go_wp2
    go_ret
    exact ⟨by first | rfl | (simp [errW_none, errW_some] <;> rfl) | (simp [*, errW_none, errW_some] <;> rfl), by repeat (first | (with_reducible first | exact HB.out | apply below_alloc | apply pw_below_drewN | apply below_drew1 | refine below_set ?_ GE101.out) | exact HB.out)⟩
   ·replace c10 := Bool.eq_false_iff.mpr c10
    subst c10
    have H1 : (some true) = some r := by rw [if_neg (show ¬ (false = true) by decide)] at H; exact H
    clear H
    have H := H1
    clear H1
    obtain rfl := Option.some.inj H
    go_enter Try.func25, Try.ntmps25
    try go_wp2_with (first | ((with_reducible refine gate_dst (N := 1) rfl ?_); refine box_event ?hg (N := 1) ?hd (cs := #[.int .u8 a0_0, .int .i64 a0_1, .int .i64 a0_2]) (t := 41) ?hr ?_; (case hd => rfl); (case hg => rfl); (case hr => first | (go_simp; done) | (go_simp; rfl)); intro gb101 hg w15 hbox hb; have n0_ := Aside0.mk (below_step (bl HB) hb); have n1_ := Aside0.mk (hbox); have n2_ := Aside0.mk ((by rw [hg]; exact (below_size (bl HB)) : w.heap.size ≤ gb101)); have n3_ := Aside0.mk ((by rw [hg]; exact (below_size (bl HB)) : w.heap.size ≤ gb101)); clear HB; have HB := n0_; have BK101 := n1_; have GW101 := n2_; have GE101 := n3_; clear n0_ n1_ n2_ n3_; clear hb hbox hg))
    have n0_ := Aside0.mk (blk_drew BK101.out)
    have n1_ := Aside0.mk (below_drew1 HB.out)
    clear BK101
    clear HB
    have BK101 := n0_
    have HB := n1_
    clear n0_ n1_
    refine start_ (n := 31) (S := fun w' => w'.cell? ⟨gb101, 0, none⟩ = some (.int .u8 a0_0) ∧ w'.cell? ⟨gb101, 1, none⟩ = some (.int .i64 a0_1) ∧ w'.cell? ⟨gb101, 2, none⟩ = some (.int .i64 a0_2)) (ds := []) #[false, false, false, false, false, false, false, false, false, false, false, false, false, false, false, false, false, false, false, false, false, false, false, false, false, false, false, false, false, false, false] (by kernel_rfl) rfl rfl ⟨(blk_cell BK101.out 0).trans rfl, (blk_cell BK101.out 1).trans rfl, (blk_cell BK101.out 2).trans rfl⟩ (fun hHeld => ?_); refine with_tabW code_wrong.tab1 code_wrong.bits1 (fun HT_ HW_ => ?_)
    generalize w15.drew = w16 at BK101 HB hHeld ⊢
    refine pu 0 (some 3) ?_; refine tk 1 (some 4) hHeld ?_; refine pu 2 (some 5) ?_; refine pu 3 (some 6) ?_; refine pu 4 (some 7) ?_; refine tk 5 (some 8) hHeld ?_; refine pu 6 (some 9) ?_; refine pu 7 (some 10) ?_; refine pu 8 (some 11) ?_; refine pu 9 (some 12) ?_; refine pu 11 (some 14) ?_; refine tk 10 (some 13) hHeld ?_; refine tk 12 (some 15) hHeld ?_
    refine on_ 13 (some 16) (fun K hK => ?_)
    refine goes_ Try.func49 (by kernel_rfl) rfl #[.int .u8 a0_0] (by rfl) rfl rfl (by (try simp only [List.map_toArray, List.map_cons, List.map_nil]); first | done | rfl | (simp only [List.length_drop, List.length_take]; rfl)) ?_
    with_reducible refine (code_of.calls k a0_0 t102 _ A8.out).mono ?_
    rintro e w' ⟨rfl, ⟨nd, rfl⟩⟩
    refine ⟨_, rfl, ?_⟩
    refine hK.out _ _ ⟨(blk_cell BK101.out 0).trans rfl, (blk_cell BK101.out 1).trans rfl, (blk_cell BK101.out 2).trans rfl⟩ (fun hHeld => ?_)
    clear hK K
    refine norm_ (a' := ?_) ?_ ?_
    rotate_left
    ·show Act.put _ (some 16) _ = _
     simp only [Act.put, List.setIfInBounds_toArray, List.set_cons_zero, List.set_cons_succ, i64_w, i32_w]
     rfl
    refine pu 14 (some 17) ?_; refine pu 15 (some 18) ?_
    refine on_ 16 (some 19) (fun K hK => ?_)
    refine goes_ Try.func23 (by kernel_rfl) rfl #[.int .i64 a0_1, .bool ((Go.bits .and .u8 t102 1) != 0)] (by rfl) rfl rfl (by (try simp only [List.map_toArray, List.map_cons, List.map_nil]); first | done | rfl | (simp only [List.length_drop, List.length_take]; rfl)) ?_
    with_reducible refine (code_right.calls a0_1 ((Go.bits .and .u8 t102 1) != 0) false _ A9.out).mono ?_
    rintro e w' ⟨rfl, ⟨nd, rfl⟩⟩
    refine ⟨_, rfl, ?_⟩
    refine hK.out _ _ ⟨(blk_cell BK101.out 0).trans rfl, (blk_cell BK101.out 1).trans rfl, (blk_cell BK101.out 2).trans rfl⟩ (fun hHeld => ?_)
    clear hK K
    refine norm_ (a' := ?_) ?_ ?_
    rotate_left
    ·show Act.put _ (some 19) _ = _
     simp only [Act.put, List.setIfInBounds_toArray, List.set_cons_zero, List.set_cons_succ, i64_w, i32_w]
     rfl
    refine pu 17 (some 20) ?_; refine pu 18 (some 21) ?_; refine pu 19 (some 22) ?_; refine pz 20 (some 23) ?_; refine pz 21 (some 24) ?_; refine pz 22 (some 25) ?_; refine pz 23 (some 26) ?_; refine pz 24 (some 27) ?_; refine pz 25 (some 28) ?_; refine pz 26 (some 29) ?_; refine pz 27 (some 30) ?_; refine pz 28 (some 31) ?_; refine pu 29 (some 32) ?_; refine pu 30 (some 2) ?_
    refine done_ (done_of HT_.out (by kernel_rfl)) ?_
    try go_wp2
    go_ret
    exact ⟨by first | rfl | (simp [errW_none, errW_some] <;> rfl) | (simp [*, errW_none, errW_some] <;> rfl), by repeat (first | (with_reducible first | exact HB.out | apply below_alloc | apply pw_below_drewN | apply below_drew1 | refine below_set ?_ GE101.out) | exact HB.out)⟩

end Go.Proofs.Ytmhmappdohddeaa.H
