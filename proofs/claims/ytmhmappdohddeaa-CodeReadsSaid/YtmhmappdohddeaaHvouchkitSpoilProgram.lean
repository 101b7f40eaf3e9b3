-- WRITTEN BY A PROGRAM OF THIS SESSION (hprint.py, compress.py), out of the translation. Lean checks it.
import Derived.Test.YtmhmappdohddeaaHx0
import Derived.Test.YtmhmappdohddeaaWStep
import Derived.Test.YtmhmappdohddeaaWMore
namespace Go.Proofs.Ytmhmappdohddeaa.H
open Go.RowKit Go.Proofs.YtmhmappdohddeaaW.PrintWords Go.Proofs.YtmhmappdohddeaaW.PrintLast Go.Proofs.YtmhmappdohddeaaW.PrintMore
attribute [local go_sem] max2_int min2_int max_two min_two max_three min_three max_four min_four   -- for this text's walks alone
set_option linter.unusedVariables false
set_option linter.unusedSimpArgs false

/-! ### vouchkit_SpoilProgram: function 21 -/
mutual
def vouchkit_SpoilProgram.l0 : Nat → Int → Int → List ByteArray → List (S41) → Int → Option (List ByteArray × (List (S41)))
 | 0, _, _, _, _, _ => none
 | k + 1, x2, x102000, x102001, x102002, x102003 => if x2 < (x102001.length : Int) then (if 0 ≤ x2 then (vouchkit_SpoilProgram.l0 k (wrap64 (x2 + 1)) x102000 (x102001.set (x2 : Int).toNat (⟨#[119, 114, 105, 116, 116, 101, 110, 32, 111, 118, 101, 114]⟩ : ByteArray)) x102002 x102003) else (none)) else (vouchkit_SpoilProgram.l1 k 0 x102000 x102001 x102002 x102003)
def vouchkit_SpoilProgram.l1 : Nat → Int → Int → List ByteArray → List (S41) → Int → Option (List ByteArray × (List (S41)))
 | 0, _, _, _, _, _ => none
 | k + 1, x3, x102000, x102001, x102002, x102003 => if x3 < (x102002.length : Int) then (if 0 ≤ x3 then (vouchkit_SpoilProgram.l1 k (wrap64 (x3 + 1)) x102000 x102001 (x102002.set (x3 : Int).toNat (⟨99, 0, 0⟩ : S41)) x102003) else (none)) else (some (x102001, x102002))
end
def vouchkit_SpoilProgram.f (k : Nat) (a0_0 : Int) (l0_1 : List ByteArray) (l0_2 : List (S41)) (a0_3 : Int) : Option (List ByteArray × (List (S41))) := vouchkit_SpoilProgram.l0 k 0 a0_0 l0_1 l0_2 a0_3
theorem vouchkit_SpoilProgram.mono_l : ∀ k, (∀ y0 y1 y2 y3 y4, LeO (vouchkit_SpoilProgram.l0 k y0 y1 y2 y3 y4) (vouchkit_SpoilProgram.l0 (k + 1) y0 y1 y2 y3 y4)) ∧ (∀ y0 y1 y2 y3 y4, LeO (vouchkit_SpoilProgram.l1 k y0 y1 y2 y3 y4) (vouchkit_SpoilProgram.l1 (k + 1) y0 y1 y2 y3 y4))
 | 0 => ⟨fun _ _ _ _ _ r h => by simp [vouchkit_SpoilProgram.l0] at h, fun _ _ _ _ _ r h => by simp [vouchkit_SpoilProgram.l1] at h⟩
 | k + 1 => by
  obtain ⟨ih0, ih1⟩ := vouchkit_SpoilProgram.mono_l k
  refine ⟨?_, ?_⟩
  ·intro y0 y1 y2 y3 y4
   unfold vouchkit_SpoilProgram.l0
   repeat' first
   | (with_reducible exact ih0 _ _ _ _ _)
   | (with_reducible exact ih1 _ _ _ _ _)
   | (with_reducible exact LeO.refl _)
   | (with_reducible exact LeO.none _)
   | (with_reducible refine LeO.ite ?_ ?_)
   | (with_reducible refine LeO.bind ?_ (fun _ => ?_))
   | exact ih0 _ _ _ _ _
   | exact ih1 _ _ _ _ _
   | exact LeO.none _
   | refine LeO.ite ?_ ?_
   | refine LeO.bind ?_ (fun _ => ?_)
  ·intro y0 y1 y2 y3 y4
   unfold vouchkit_SpoilProgram.l1
   repeat' first
   | (with_reducible exact ih0 _ _ _ _ _)
   | (with_reducible exact ih1 _ _ _ _ _)
   | (with_reducible exact LeO.refl _)
   | (with_reducible exact LeO.none _)
   | (with_reducible refine LeO.ite ?_ ?_)
   | (with_reducible refine LeO.bind ?_ (fun _ => ?_))
   | exact ih0 _ _ _ _ _
   | exact ih1 _ _ _ _ _
   | exact LeO.none _
   | refine LeO.ite ?_ ?_
   | refine LeO.bind ?_ (fun _ => ?_)
theorem vouchkit_SpoilProgram.mono : ∀ a0 a1 a2 a3 k, LeO (vouchkit_SpoilProgram.f k a0 a1 a2 a3) (vouchkit_SpoilProgram.f (k + 1) a0 a1 a2 a3) := by
 intro a0 a1 a2 a3 k
 obtain ⟨ih0, ih1⟩ := vouchkit_SpoilProgram.mono_l k
 unfold vouchkit_SpoilProgram.f
 repeat' first
   | (with_reducible exact ih0 _ _ _ _ _)
   | (with_reducible exact ih1 _ _ _ _ _)
   | (with_reducible exact LeO.refl _)
   | (with_reducible exact LeO.none _)
   | (with_reducible refine LeO.ite ?_ ?_)
   | (with_reducible refine LeO.bind ?_ (fun _ => ?_))
   | exact ih0 _ _ _ _ _
   | exact ih1 _ _ _ _ _
   | exact LeO.none _
   | refine LeO.ite ?_ ?_
   | refine LeO.bind ?_ (fun _ => ?_)
set_option maxHeartbeats 8000000 in
set_option maxRecDepth 100000 in
theorem vouchkit_SpoilProgram.calls (k : Nat) (a0_0 : Int) (P0_1_ : Nat → Prop) (u9000_ : Value) (l0_1 : List ByteArray) (P0_2_ : Nat → Prop) (u9001_ : Value) (l0_2 : List (S41)) (a0_3 : Int) (r1 : List ByteArray) (r2 : List (S41)) (w0 w : World) (hB : Below w0.heap.size w0 w) (ho0_1 : Kd.R Kd.string 9 w w0.heap.size P0_1_ u9000_ l0_1) (ho0_2 : Kd.R k41 41 w w0.heap.size P0_2_ u9001_ l0_2) (h : vouchkit_SpoilProgram.f k a0_0 l0_1 l0_2 a0_3 = some (r1, r2)) :
  Calls Try.prog 21 #[.agg #[.int .u8 a0_0, u9000_, u9001_, .int .i64 a0_3]] w fun e w' => e = .returned (.tuple #[]) ∧ Kd.R Kd.string 9 w' w0.heap.size (fun k_ => ((P0_1_ k_ ∨ P0_2_ k_) ∨ w.heap.size ≤ k_)) u9000_ r1 ∧ Kd.R k41 41 w' w0.heap.size (fun k_ => ((P0_1_ k_ ∨ P0_2_ k_) ∨ w.heap.size ≤ k_)) u9001_ r2 ∧ Below w0.heap.size w0 w' ∧ Kept w w' (fun k_ => P0_1_ k_ ∨ P0_2_ k_) := by
 have hu25 := Try.underlying25
 have hu41 := Try.underlying41
 have HO0_1 := Aside0.mk (show Kd.R Kd.string 9 w w0.heap.size (fun k_ => ((P0_1_ k_ ∨ P0_2_ k_) ∨ w.heap.size ≤ k_)) u9000_ l0_1 from Kd.R_mono ho0_1 (fun k_ hk => (.inl (.inl hk))))
 have HO0_2 := Aside0.mk (show Kd.R k41 41 w w0.heap.size (fun k_ => ((P0_1_ k_ ∨ P0_2_ k_) ∨ w.heap.size ≤ k_)) u9001_ l0_2 from Kd.R_mono ho0_2 (fun k_ hk => (.inl (.inr hk))))
 have HK := Aside0.mk (Kept.refl w (fun k_ => P0_1_ k_ ∨ P0_2_ k_))
 have HW0 := Aside0.mk hB.size
 have HB := Aside0.mk hB
 clear hB
 have H : (vouchkit_SpoilProgram.l0 k 0 a0_0 l0_1 l0_2 a0_3) = some (r1, r2) := h
 clear h
 have H' := Aside0.mk H
 clear H
 obtain ⟨Ao2, co2, eo2⟩ := Kd.R_slice HO0_1.out
 subst eo2
 obtain ⟨Ao3, co3, eo3⟩ := Kd.R_slice HO0_2.out
 subst eo3
 go_enter Try.func21, Try.ntmps21
 go_wp2_with (first | ((with_reducible refine gate_dst (N := 1) rfl ?_); refine box_event ?hg (N := 1) ?hd (cs := #[.int .u8 a0_0, .slice Ao2 l0_1.length co2, .slice Ao3 l0_2.length co3, .int .i64 a0_3]) (t := 25) ?hr ?_; (case hd => rfl); (case hg => rfl); (case hr => first | (go_simp; done) | (go_simp; rfl)); intro gb101 hg w4 hbox hb; have n0_ := Aside0.mk (Kd.R_below (kr HO0_1) hb); have n1_ := Aside0.mk (Kd.R_below (kr HO0_2) hb); have n2_ := Aside0.mk (Kept.below (S := (fun k_ => P0_1_ k_ ∨ P0_2_ k_)) (by repeat (first | (with_reducible first | exact HK.out | apply Kept.alloc | apply Kept.drewN | apply Kept.drew) | exact HK.out)) hb); have n3_ := Aside0.mk (below_step (bl HB) hb); have n4_ := Aside0.mk (hbox); have n5_ := Aside0.mk ((by rw [hg]; exact (by first | exact HK.out.1 | exact (show Kept w _ (fun k_ => P0_1_ k_ ∨ P0_2_ k_) from by repeat (first | (with_reducible first | exact HK.out | apply Kept.alloc | apply Kept.drewN | apply Kept.drew) | exact HK.out)).1) : w.heap.size ≤ gb101)); have n6_ := Aside0.mk ((by rw [hg]; exact (below_size (bl HB)) : w0.heap.size ≤ gb101)); clear HO0_1; clear HO0_2; clear HK; clear HB; have HO0_1 := n0_; have HO0_2 := n1_; have HK := n2_; have HB := n3_; have BK101 := n4_; have GW101 := n5_; have GE101 := n6_; clear n0_ n1_ n2_ n3_ n4_ n5_ n6_; clear hb hbox hg))
 go_loopg [2] k (fun kq v2 w' => ∃ (x2_1 : Int) (x102001_1 : List ByteArray), v2 = .int .i64 x2_1 ∧ Aside0 (vouchkit_SpoilProgram.l0 kq x2_1 a0_0 x102001_1 l0_2 a0_3 = some (r1, r2)) ∧ Aside0 (kq ≤ k) ∧ Aside0 (Kd.R Kd.string 9 w' w0.heap.size (fun k_ => ((P0_1_ k_ ∨ P0_2_ k_) ∨ w.heap.size ≤ k_)) (.slice Ao2 l0_1.length co2) x102001_1) ∧ Aside0 (Kd.R k41 41 w' w0.heap.size (fun k_ => ((P0_1_ k_ ∨ P0_2_ k_) ∨ w.heap.size ≤ k_)) (.slice Ao3 l0_2.length co3) l0_2) ∧ Aside0 (w'.heap[gb101]? = some (.cells #[.int .u8 a0_0, (.slice Ao2 l0_1.length co2), (.slice Ao3 l0_2.length co3), .int .i64 a0_3] 25 (0, 0))) ∧ Aside0 (Kept w w' (fun k_ => P0_1_ k_ ∨ P0_2_ k_)) ∧ Aside0 (Below w0.heap.size w0 w'))
 case atStart => exact ⟨(0), (l0_1), (by first | rfl | (simp; done) | (simp [*]; done)), H', ⟨Nat.le_refl _⟩, ⟨by (with_reducible repeat (first | apply Kd.R_alloc | apply Kd.R_drewN | apply Kd.R_drew)); exact HO0_1.out⟩, ⟨by (with_reducible repeat (first | apply Kd.R_alloc | apply Kd.R_drewN | apply Kd.R_drew)); exact HO0_2.out⟩, ⟨by (with_reducible repeat (first | refine blk_drewN ?_ _ | refine blk_drew ?_ | refine blk_alloc ?_ _)); exact BK101.out⟩, ⟨by repeat (first | (with_reducible first | exact HK.out | apply Kept.alloc | apply Kept.drewN | apply Kept.drew | refine Kept.setCell ?_ (.inr GW101.out) _) | exact HK.out)⟩, ⟨by repeat (first | (with_reducible first | exact HB.out | apply below_alloc | apply pw_below_drewN | apply below_drew1 | refine below_set ?_ GE101.out) | exact HB.out)⟩⟩
 case round =>
  clear H'
  try clear c2
  try clear p2
  obtain ⟨x2_1, x102001_1, rfl, HA, HK1, HO_102001, HO_102002, BK101, HK, HB⟩ := hrel
  have hl102001_1 := (Kd.R_reads' HO_102001.out).1
  rw [hl102001_1] at HO_102001
  (try simp only [hl102001_1])
  (try simp only [hl102001_1] at BK101)
  (try simp only [hl102001_1] at HO_102002)
  cases gk with
  | zero => exact absurd HA.out (by simp [vouchkit_SpoilProgram.l0])
  | succ k1 =>
   have H := HA.out
   clear HA
   simp only [vouchkit_SpoilProgram.l0] at H
   by_cases c5 : x2_1 < (x102001_1.length : Int)
   ·rw [if_pos c5] at H
    have c5b0 : decide (x2_1 < (x102001_1.length : Int)) = true := decide_eq_true c5
    clear c5
    by_cases c6 : 0 ≤ x2_1
    ·rw [if_pos c6] at H
     have c6b0 : decide (0 ≤ x2_1) = true := decide_eq_true c6
     clear c6
     obtain ⟨y102, hy102⟩ : ∃ y_ : List ByteArray, y_ = (x102001_1.set (x2_1 : Int).toNat (⟨#[119, 114, 105, 116, 116, 101, 110, 32, 111, 118, 101, 114]⟩ : ByteArray)) := ⟨_, rfl⟩
     replace H : (vouchkit_SpoilProgram.l0 k1 (wrap64 (x2_1 + 1)) a0_0 y102 l0_2 a0_3) = some (r1, r2) := by first | (rw [hy102]; with_reducible exact H) | (have H2_ := (Option.bind_some _ _).symm.trans H; rw [hy102]; with_reducible exact H2_) | (have H2_ := (Option.bind_some _ _).symm.trans H; with_reducible exact H2_) | with_reducible exact H | (rw [hy102]; exact H) | exact H
     have Ny102 := Aside0.mk hy102
     clear hy102
     have H' := Aside0.mk H
     clear H
     have hcz8_0 : wr.cell? ⟨gb101, 0, none⟩ = some (.int .u8 a0_0) := (blk_cell BK101.out 0).trans rfl
     have hcz8_1 : wr.cell? ⟨gb101, 1, none⟩ = some (.slice Ao2 x102001_1.length co2) := (blk_cell BK101.out 1).trans rfl
     have hcz8_2 : wr.cell? ⟨gb101, 2, none⟩ = some (.slice Ao3 l0_2.length co3) := (blk_cell BK101.out 2).trans rfl
     have hcz8_3 : wr.cell? ⟨gb101, 3, none⟩ = some (.int .i64 a0_3) := (blk_cell BK101.out 3).trans rfl
     have hfz8_0 := blk_frozen BK101.out 0
     have hfz8_1 := blk_frozen BK101.out 1
     have hfz8_2 := blk_frozen BK101.out 2
     have hfz8_3 := blk_frozen BK101.out 3
     have p7 : 0 ≤ (x2_1 : Int) := of_decide_eq_true (by first | (with_reducible assumption) | assumption)
     have q7 : (x2_1 : Int) < ((x102001_1.length : Int) : Int) := of_decide_eq_true (by first | (with_reducible assumption) | assumption)
     obtain ⟨go7, co7, eo7, gb7, gl7, cl7, HG7⟩ := Kd.R_form HO_102001.out (by omega)
     (first | cases eo7 | (injection eo7 with ea_ en_ ec_; (first | subst ea_ | (injection ea_ with ea_; subst ea_)); subst ec_; clear en_))
     have GB7 := Aside0.mk gb7
     have GG7 := Aside0.mk HG7
     clear gb7 gl7 HG7
     have HMgo7 := Aside0.mk (show ((P0_1_ go7 ∨ P0_2_ go7) ∨ w.heap.size ≤ go7) from (HO_102001.out.1 _ rfl))
     obtain ⟨hx7_0, hf7_0⟩ := Kd.R_celln (⟨#[]⟩ : ByteArray) HO_102001.out (x2_1 : Int) p7 q7
     replace p7 := eq_true p7
     replace q7 := eq_true q7
     have HP9 := Kd.R_putg HO_102001.out (x2_1 : Int) (⟨#[119, 114, 105, 116, 116, 101, 110, 32, 111, 118, 101, 114]⟩ : ByteArray)
     go_wp2_with (first | ((with_reducible refine gate_store (t := 9) (p := 14) rfl ?_); refine store_event (t := 9) (p := 14) (v := ?vo_w10) (w1 := (wr.setCell ⟨go7, (x2_1 : Int).toNat, none⟩ (.string (⟨#[119, 114, 105, 116, 116, 101, 110, 32, 111, 118, 101, 114]⟩ : ByteArray)))) ?hg ?ho ?hn ?hr ?_; (case ho => rfl); (case hg => rfl); (case hn => rfl); (case hr => first | (go_simp; done) | (go_simp; rfl)); intro w10 hw; have hg : wr.grownBy w10 (some go7) := (by rw [hw]; exact HP9.2); have hp_ : Kd.R Kd.string 9 w10 w0.heap.size (fun k_ => ((P0_1_ k_ ∨ P0_2_ k_) ∨ w.heap.size ≤ k_)) (.slice (some ⟨go7, 0, none⟩) x102001_1.length co2) y102 := (by rw [hw, Ny102.out]; exact HP9.1); clear HP9; have n0_ := Aside0.mk (hp_); have n1_ := Aside0.mk (Kd.R_over' (v := (.slice (some ⟨go7, 0, none⟩) x102001_1.length co2)) (kr HO_102002) (Kd.R_typed HO_102001.out) (by decide) hg); have n2_ := Aside0.mk (blk_grown (g := gb101) (o := .cells #[.int .u8 a0_0, .slice (some ⟨go7, 0, none⟩) x102001_1.length co2, .slice Ao3 l0_2.length co3, .int .i64 a0_3] 25 (0, 0)) (bk BK101) hg (Kd.R_ne HO_102001.out BK101.out (by decide))); have n3_ := Aside0.mk ((by rw [hw]; exact below_set (HB.out) GB7.out : Below w0.heap.size w0 w10)); have n4_ := Aside0.mk (Kept.of_grown (S := (fun k_ => P0_1_ k_ ∨ P0_2_ k_)) hg (by repeat (first | (with_reducible first | exact HK.out | apply Kept.alloc | apply Kept.drewN | apply Kept.drew | refine Kept.setCell ?_ (.inr GW101.out) _) | exact HK.out)) (fun k_ e_ => (HO_102001.out.1 k_ e_))); clear HO_102001; clear HO_102002; clear BK101; clear HB; clear HK; have HO_102001 := n0_; have HO_102002 := n1_; have BK101 := n2_; have HB := n3_; have HK := n4_; clear n0_ n1_ n2_ n3_ n4_; clear hg hw hp_))
     (try simp only [← hl102001_1])
     go_roundg k1
     case measure => have := HK1.out; omega
     case rel => exact ⟨(wrap64 (x2_1 + 1)), (y102), (by first | rfl | (simp; done) | (simp [*]; done)), H', ⟨by have := HK1.out; omega⟩, ⟨by (try simp only [hl102001_1]); (with_reducible repeat (first | apply Kd.R_alloc | apply Kd.R_drewN | apply Kd.R_drew)); exact HO_102001.out⟩, ⟨by (try simp only [hl102001_1]); (with_reducible repeat (first | apply Kd.R_alloc | apply Kd.R_drewN | apply Kd.R_drew)); exact HO_102002.out⟩, ⟨by (try simp only [hl102001_1]); (with_reducible repeat (first | refine blk_drewN ?_ _ | refine blk_drew ?_ | refine blk_alloc ?_ _)); exact BK101.out⟩, ⟨by repeat (first | (with_reducible first | exact HK.out | apply Kept.alloc | apply Kept.drewN | apply Kept.drew | refine Kept.setCell ?_ (.inr GW101.out) _) | exact HK.out)⟩, ⟨by repeat (first | (with_reducible first | exact HB.out | apply below_alloc | apply pw_below_drewN | apply below_drew1 | refine below_set ?_ GE101.out) | exact HB.out)⟩⟩
    ·rw [if_neg c6] at H
     exact absurd H (by simp)
   ·rw [if_neg c5] at H
    have c5b0 : decide (x2_1 < (x102001_1.length : Int)) = false := decide_eq_false c5
    clear c5
    have H' := Aside0.mk H
    clear H
    have hcz11_0 : wr.cell? ⟨gb101, 0, none⟩ = some (.int .u8 a0_0) := (blk_cell BK101.out 0).trans rfl
    have hcz11_1 : wr.cell? ⟨gb101, 1, none⟩ = some (.slice Ao2 x102001_1.length co2) := (blk_cell BK101.out 1).trans rfl
    have hcz11_2 : wr.cell? ⟨gb101, 2, none⟩ = some (.slice Ao3 l0_2.length co3) := (blk_cell BK101.out 2).trans rfl
    have hcz11_3 : wr.cell? ⟨gb101, 3, none⟩ = some (.int .i64 a0_3) := (blk_cell BK101.out 3).trans rfl
    have hfz11_0 := blk_frozen BK101.out 0
    have hfz11_1 := blk_frozen BK101.out 1
    have hfz11_2 := blk_frozen BK101.out 2
    have hfz11_3 := blk_frozen BK101.out 3
    go_wp2
    go_loopg [3] k1 (fun kq v3 w' => ∃ (x3_2 : Int) (x102002_2 : List (S41)), v3 = .int .i64 x3_2 ∧ Aside0 (vouchkit_SpoilProgram.l1 kq x3_2 a0_0 x102001_1 x102002_2 a0_3 = some (r1, r2)) ∧ Aside0 (kq ≤ k1) ∧ Aside0 (Kd.R Kd.string 9 w' w0.heap.size (fun k_ => ((P0_1_ k_ ∨ P0_2_ k_) ∨ w.heap.size ≤ k_)) (.slice Ao2 x102001_1.length co2) x102001_1) ∧ Aside0 (Kd.R k41 41 w' w0.heap.size (fun k_ => ((P0_1_ k_ ∨ P0_2_ k_) ∨ w.heap.size ≤ k_)) (.slice Ao3 l0_2.length co3) x102002_2) ∧ Aside0 (w'.heap[gb101]? = some (.cells #[.int .u8 a0_0, (.slice Ao2 x102001_1.length co2), (.slice Ao3 l0_2.length co3), .int .i64 a0_3] 25 (0, 0))) ∧ Aside0 (Kept w w' (fun k_ => P0_1_ k_ ∨ P0_2_ k_)) ∧ Aside0 (Below w0.heap.size w0 w'))
    case atStart => exact ⟨(0), (l0_2), (by first | rfl | (simp; done) | (simp [*]; done)), H', ⟨Nat.le_refl _⟩, ⟨by (try simp only [hl102001_1]); (with_reducible repeat (first | apply Kd.R_alloc | apply Kd.R_drewN | apply Kd.R_drew)); exact HO_102001.out⟩, ⟨by (try simp only [hl102001_1]); (with_reducible repeat (first | apply Kd.R_alloc | apply Kd.R_drewN | apply Kd.R_drew)); exact HO_102002.out⟩, ⟨by (try simp only [hl102001_1]); (with_reducible repeat (first | refine blk_drewN ?_ _ | refine blk_drew ?_ | refine blk_alloc ?_ _)); exact BK101.out⟩, ⟨by repeat (first | (with_reducible first | exact HK.out | apply Kept.alloc | apply Kept.drewN | apply Kept.drew | refine Kept.setCell ?_ (.inr GW101.out) _) | exact HK.out)⟩, ⟨by repeat (first | (with_reducible first | exact HB.out | apply below_alloc | apply pw_below_drewN | apply below_drew1 | refine below_set ?_ GE101.out) | exact HB.out)⟩⟩
    case round =>
     clear H'
     try clear c2
     try clear p2
     try clear c5
     try clear c5b0
     try clear c6
     try clear c6b0
     try clear p6
     try clear p7
     try clear q7
     try clear hx7
     try clear hf7
     try clear hcz11_0
     try clear hcz11_1
     try clear hcz11_2
     try clear hcz11_3
     try clear hcz8_0
     try clear hcz8_1
     try clear hcz8_2
     try clear hcz8_3
     try clear hfz11_0
     try clear hfz11_1
     try clear hfz11_2
     try clear hfz11_3
     try clear hfz8_0
     try clear hfz8_1
     try clear hfz8_2
     try clear hfz8_3
     try clear hx7_0
     try clear p2
     try clear p7
     try clear q7
     obtain ⟨x3_2, x102002_2, rfl, HA, HK2, HO_102001, HO_102002, BK101, HK, HB⟩ := hrel
     have hl102002_2 := (Kd.R_reads' HO_102002.out).1
     rw [hl102002_2] at HO_102002
     (try simp only [hl102002_2])
     (try simp only [hl102002_2] at BK101)
     (try simp only [hl102002_2] at HO_102001)
     cases gk with
     | zero => exact absurd HA.out (by simp [vouchkit_SpoilProgram.l1])
     | succ k2 =>
      have H := HA.out
      clear HA
      simp only [vouchkit_SpoilProgram.l1] at H
      by_cases c12 : x3_2 < (x102002_2.length : Int)
      ·rw [if_pos c12] at H
       have c12b0 : decide (x3_2 < (x102002_2.length : Int)) = true := decide_eq_true c12
       clear c12
       by_cases c13 : 0 ≤ x3_2
       ·rw [if_pos c13] at H
        have c13b0 : decide (0 ≤ x3_2) = true := decide_eq_true c13
        clear c13
        obtain ⟨y103, hy103⟩ : ∃ y_ : List (S41), y_ = (x102002_2.set (x3_2 : Int).toNat (⟨99, 0, 0⟩ : S41)) := ⟨_, rfl⟩
        replace H : (vouchkit_SpoilProgram.l1 k2 (wrap64 (x3_2 + 1)) a0_0 x102001_1 y103 a0_3) = some (r1, r2) := by first | (rw [hy103]; with_reducible exact H) | (have H2_ := (Option.bind_some _ _).symm.trans H; rw [hy103]; with_reducible exact H2_) | (have H2_ := (Option.bind_some _ _).symm.trans H; with_reducible exact H2_) | with_reducible exact H | (rw [hy103]; exact H) | exact H
        have Ny103 := Aside0.mk hy103
        clear hy103
        have H' := Aside0.mk H
        clear H
        have hcz15_0 : wr.cell? ⟨gb101, 0, none⟩ = some (.int .u8 a0_0) := (blk_cell BK101.out 0).trans rfl
        have hcz15_1 : wr.cell? ⟨gb101, 1, none⟩ = some (.slice Ao2 x102001_1.length co2) := (blk_cell BK101.out 1).trans rfl
        have hcz15_2 : wr.cell? ⟨gb101, 2, none⟩ = some (.slice Ao3 x102002_2.length co3) := (blk_cell BK101.out 2).trans rfl
        have hcz15_3 : wr.cell? ⟨gb101, 3, none⟩ = some (.int .i64 a0_3) := (blk_cell BK101.out 3).trans rfl
        have hfz15_0 := blk_frozen BK101.out 0
        have hfz15_1 := blk_frozen BK101.out 1
        have hfz15_2 := blk_frozen BK101.out 2
        have hfz15_3 := blk_frozen BK101.out 3
        have p14 : 0 ≤ (x3_2 : Int) := of_decide_eq_true (by first | (with_reducible assumption) | assumption)
        have q14 : (x3_2 : Int) < ((x102002_2.length : Int) : Int) := of_decide_eq_true (by first | (with_reducible assumption) | assumption)
        obtain ⟨go14, co14, eo14, gb14, gl14, cl14, HG14⟩ := Kd.R_form HO_102002.out (by omega)
        (first | cases eo14 | (injection eo14 with ea_ en_ ec_; (first | subst ea_ | (injection ea_ with ea_; subst ea_)); subst ec_; clear en_))
        have GB14 := Aside0.mk gb14
        have GG14 := Aside0.mk HG14
        clear gb14 gl14 HG14
        have HMgo14 := Aside0.mk (show ((P0_1_ go14 ∨ P0_2_ go14) ∨ w.heap.size ≤ go14) from (HO_102002.out.1 _ rfl))
        obtain ⟨ce14, hcl14, hM14, hcc14, hfr14⟩ := Kd.R_elem HO_102002.out z41 (x3_2 : Int) p14 q14
        obtain rfl := k41_openM hM14
        have hx14_0 : wr.cell? ⟨go14, (x3_2 : Int).toNat * 3, none⟩ = some (.int .u8 ((rd_T41 x102002_2 x3_2).f0)) := hcc14 0 _ rfl
        have hx14_1 : wr.cell? ⟨go14, (x3_2 : Int).toNat * 3 + 1, none⟩ = some (.int .i64 ((rd_T41 x102002_2 x3_2).f1)) := hcc14 1 _ rfl
        have hx14_2 : wr.cell? ⟨go14, (x3_2 : Int).toNat * 3 + 2, none⟩ = some (.int .i64 ((rd_T41 x102002_2 x3_2).f2)) := hcc14 2 _ rfl
        have hf14_0 : wr.frozen? ⟨go14, (x3_2 : Int).toNat * 3, none⟩ = false := hfr14 0
        have hf14_1 : wr.frozen? ⟨go14, (x3_2 : Int).toNat * 3 + 1, none⟩ = false := hfr14 1
        have hf14_2 : wr.frozen? ⟨go14, (x3_2 : Int).toNat * 3 + 2, none⟩ = false := hfr14 2
        clear hcl14 hcc14 hfr14 hM14
        replace p14 := eq_true p14
        replace q14 := eq_true q14
        have HX16 := Aside0.mk (show Kd.R k41 41 wr w0.heap.size (fun k_ => ((P0_1_ k_ ∨ P0_2_ k_) ∨ w.heap.size ≤ k_)) (.slice (some ⟨go14, 0, none⟩) x102002_2.length co3) x102002_2 from (kr HO_102002))
        obtain ⟨ce16, hcl16, hM16, hcc16, hfr16⟩ := Kd.R_elem HX16.out z41 (x3_2 : Int) (of_decide_eq_true (by first | (with_reducible assumption) | assumption)) (by have h_ : (x3_2 : Int) < ((x102002_2.length : Int) : Int) := of_decide_eq_true (by first | (with_reducible assumption) | assumption); first | exact h_ | (have e_ := (Kd.R_reads' HO_102002.out).1; omega) | simpa using h_)
        obtain rfl := k41_openM hM16
        have HP16 := Kd.R_seg HX16.out (x3_2 : Int) (of_decide_eq_true (by first | (with_reducible assumption) | assumption)) (by have h_ : (x3_2 : Int) < ((x102002_2.length : Int) : Int) := of_decide_eq_true (by first | (with_reducible assumption) | assumption); first | exact h_ | (have e_ := (Kd.R_reads' HO_102002.out).1; omega) | simpa using h_) (seg := [.int .u8 99, .int .i64 0, .int .i64 0]) (j := 0) hcl16 hcc16 (show 3 ≤ 3 from by decide) (x' := (⟨99, 0, 0⟩ : S41)) (k41_mkM _ _ _ (⟨99, 0, 0⟩ : S41) ) (fun _ hk => hk)
        have hx16_0 := hcc16 0 _ rfl
        (try simp only [show (k41).sz = 3 from rfl, Nat.mul_one, Nat.add_zero] at hx16_0)
        have hf16_0 := hfr16 0
        (try simp only [show (k41).sz = 3 from rfl, Nat.mul_one, Nat.add_zero] at hf16_0)
        have hx16_1 := hcc16 1 _ rfl
        (try simp only [show (k41).sz = 3 from rfl, Nat.mul_one, Nat.add_zero] at hx16_1)
        have hf16_1 := hfr16 1
        (try simp only [show (k41).sz = 3 from rfl, Nat.mul_one, Nat.add_zero] at hf16_1)
        have hx16_2 := hcc16 2 _ rfl
        (try simp only [show (k41).sz = 3 from rfl, Nat.mul_one, Nat.add_zero] at hx16_2)
        have hf16_2 := hfr16 2
        (try simp only [show (k41).sz = 3 from rfl, Nat.mul_one, Nat.add_zero] at hf16_2)
        clear hcl16 hcc16 hfr16 hM16
        go_wp2_with (first | ((with_reducible refine gate_store (t := 41) (p := 26) rfl ?_); refine store_event (t := 41) (p := 26) (v := ?vo_w17) (w1 := (((wr.setCell ⟨go14, (x3_2 : Int).toNat * 3, none⟩ (.int .u8 99)).setCell ⟨go14, (x3_2 : Int).toNat * 3 + 1, none⟩ (.int .i64 0)).setCell ⟨go14, (x3_2 : Int).toNat * 3 + 2, none⟩ (.int .i64 0))) ?hg ?ho ?hn ?hr ?_; (case ho => rfl); (case hg => rfl); (case hn => rfl); (case hr => first | (go_simp; done) | (go_simp; rfl)); intro w17 hw; have hg : wr.grownBy w17 (some go14) := (by rw [hw]; exact HP16.2); have hp_ : Kd.R k41 41 w17 w0.heap.size (fun k_ => ((P0_1_ k_ ∨ P0_2_ k_) ∨ w.heap.size ≤ k_)) (.slice (some ⟨go14, 0, none⟩) x102002_2.length co3) y103 := (by rw [hw, Ny103.out]; exact HP16.1); clear HP16; have n0_ := Aside0.mk (Kd.R_over' (v := (.slice (some ⟨go14, 0, none⟩) x102002_2.length co3)) (kr HO_102001) (Kd.R_typed HO_102002.out) (by decide) hg); have n1_ := Aside0.mk (hp_); have n2_ := Aside0.mk (blk_grown (g := gb101) (o := .cells #[.int .u8 a0_0, .slice Ao2 x102001_1.length co2, .slice (some ⟨go14, 0, none⟩) x102002_2.length co3, .int .i64 a0_3] 25 (0, 0)) (bk BK101) hg (Kd.R_ne HO_102002.out BK101.out (by decide))); have n3_ := Aside0.mk ((by rw [hw]; exact below_set (below_set (below_set (HB.out) GB14.out) GB14.out) GB14.out : Below w0.heap.size w0 w17)); have n4_ := Aside0.mk (Kept.of_grown (S := (fun k_ => P0_1_ k_ ∨ P0_2_ k_)) hg (by repeat (first | (with_reducible first | exact HK.out | apply Kept.alloc | apply Kept.drewN | apply Kept.drew | refine Kept.setCell ?_ (.inr GW101.out) _) | exact HK.out)) (fun k_ e_ => (HO_102002.out.1 k_ e_))); clear HO_102001; clear HO_102002; clear BK101; clear HB; clear HK; have HO_102001 := n0_; have HO_102002 := n1_; have BK101 := n2_; have HB := n3_; have HK := n4_; clear n0_ n1_ n2_ n3_ n4_; clear hg hw hp_))
        (try simp only [← hl102002_2])
        go_roundg k2
        case measure => have := HK1.out; have := HK2.out; omega
        case rel => exact ⟨(wrap64 (x3_2 + 1)), (y103), (by first | rfl | (simp; done) | (simp [*]; done)), H', ⟨by have := HK1.out; have := HK2.out; omega⟩, ⟨by (try simp only [hl102001_1]); (try simp only [hl102002_2]); (with_reducible repeat (first | apply Kd.R_alloc | apply Kd.R_drewN | apply Kd.R_drew)); exact HO_102001.out⟩, ⟨by (try simp only [hl102001_1]); (try simp only [hl102002_2]); (with_reducible repeat (first | apply Kd.R_alloc | apply Kd.R_drewN | apply Kd.R_drew)); exact HO_102002.out⟩, ⟨by (try simp only [hl102001_1]); (try simp only [hl102002_2]); (with_reducible repeat (first | refine blk_drewN ?_ _ | refine blk_drew ?_ | refine blk_alloc ?_ _)); exact BK101.out⟩, ⟨by repeat (first | (with_reducible first | exact HK.out | apply Kept.alloc | apply Kept.drewN | apply Kept.drew | refine Kept.setCell ?_ (.inr GW101.out) _) | exact HK.out)⟩, ⟨by repeat (first | (with_reducible first | exact HB.out | apply below_alloc | apply pw_below_drewN | apply below_drew1 | refine below_set ?_ GE101.out) | exact HB.out)⟩⟩
       ·rw [if_neg c13] at H
        exact absurd H (by simp)
      ·rw [if_neg c12] at H
       have c12b0 : decide (x3_2 < (x102002_2.length : Int)) = false := decide_eq_false c12
       clear c12
       simp only [Option.some.injEq, Prod.mk.injEq] at H
       obtain ⟨rfl, rfl⟩ := H
       have hcz18_0 : wr.cell? ⟨gb101, 0, none⟩ = some (.int .u8 a0_0) := (blk_cell BK101.out 0).trans rfl
       have hcz18_1 : wr.cell? ⟨gb101, 1, none⟩ = some (.slice Ao2 x102001_1.length co2) := (blk_cell BK101.out 1).trans rfl
       have hcz18_2 : wr.cell? ⟨gb101, 2, none⟩ = some (.slice Ao3 x102002_2.length co3) := (blk_cell BK101.out 2).trans rfl
       have hcz18_3 : wr.cell? ⟨gb101, 3, none⟩ = some (.int .i64 a0_3) := (blk_cell BK101.out 3).trans rfl
       have hfz18_0 := blk_frozen BK101.out 0
       have hfz18_1 := blk_frozen BK101.out 1
       have hfz18_2 := blk_frozen BK101.out 2
       have hfz18_3 := blk_frozen BK101.out 3
       go_wp2
       first | go_end0 | ((try simp only [Exit.inBlock, Exit.then]); refine bodyPost_ret (results_none rfl _ _ _) rfl ?_)
       exact ⟨by first | rfl | (simp [errW_none, errW_some] <;> rfl) | (simp [*, errW_none, errW_some] <;> rfl), (by first | exact (kr HO_102001) | (simp only [hl102001_1, hl102002_2]; exact (kr HO_102001))), (by first | exact (kr HO_102002) | (simp only [hl102001_1, hl102002_2]; exact (kr HO_102002))), by repeat (first | (with_reducible first | exact HB.out | apply below_alloc | apply pw_below_drewN | apply below_drew1 | refine below_set ?_ GE101.out) | exact HB.out), by repeat (first | (with_reducible first | exact HK.out | apply Kept.alloc | apply Kept.drewN | apply Kept.drew | refine Kept.setCell ?_ (.inr GW101.out) _) | exact HK.out)⟩

end Go.Proofs.Ytmhmappdohddeaa.H
