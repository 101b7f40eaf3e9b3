/- A row of one's own that has one element more behind its end: the mark of what is lent. -/
import Derived.Test.YtmhmappdohddeaaWWords
import Derived.Test.YtmhmappdohddeaaWMore
set_option linter.unusedVariables false
namespace Go.Proofs.YtmhmappdohddeaaW.PrintWords
open Go.RowKit
class RowMark (α : Type) where
  mark : α
namespace Kd
/-- The row as it is handed on: as many elements as told, and the mark behind them. -/
def L {α : Type} [RowMark α] (d : Kd α) (e : Nat) (w : World) (base : Nat) (ok : Nat → Prop) (v : Value) (xs : List α) : Prop :=
  ∃ A c, v = .slice A xs.length c ∧ d.R e w base ok (.slice A (xs ++ [RowMark.mark]).length c) (xs ++ [RowMark.mark])
theorem L_ob (A : Option Addr) (n m c : Nat) : (Value.slice A n c).ownBlock = (Value.slice A m c).ownBlock := by cases A <;> rfl
section
variable {α : Type} [RowMark α] {d : Kd α} {e : Nat} {w w1 : World} {base : Nat} {ok ok' : Nat → Prop} {v : Value} {xs : List α}
theorem L_step {base' : Nat} (h : d.L e w base ok v xs) (f : ∀ u ys, d.R e w base ok u ys → d.R e w1 base' ok' u ys) : d.L e w1 base' ok' v xs := by
  obtain ⟨A, c, rfl, hr⟩ := h
  exact ⟨A, c, rfl, f _ _ hr⟩
theorem L_below (h : d.L e w base ok v xs) (hb : Below w.heap.size w w1) : d.L e w1 base ok v xs := L_step h (fun _ _ hr => R_below hr hb)
theorem L_alloc (h : d.L e w base ok v xs) (o : Obj) : d.L e (w.alloc o) base ok v xs := L_step h (fun _ _ hr => R_alloc hr o)
theorem L_drewN (h : d.L e w base ok v xs) (m : Nat) : d.L e (w.drewN m) base ok v xs := L_step h (fun _ _ hr => R_drewN hr m)
theorem L_drew (h : d.L e w base ok v xs) : d.L e w.drew base ok v xs := L_step h (fun _ _ hr => R_drew hr)
theorem L_far (h : d.L e w base ok v xs) {p : Addr} (hok : ∀ k, ok k → k ≠ p.block) (u : Value) : d.L e (w.setCell p u) base ok v xs := L_step h (fun _ _ hr => R_far hr hok u)
theorem L_lower {base' : Nat} (h : d.L e w base ok v xs) (hb : base' ≤ base) : d.L e w base' ok v xs := L_step h (fun _ _ hr => R_lower hr hb)
theorem L_mono (h : d.L e w base ok v xs) (hok : ∀ k, ok k → ok' k) : d.L e w base ok' v xs := L_step h (fun _ _ hr => R_mono hr hok)
theorem L_types (h : d.L e w base ok v xs) {g t : Nat} {cells : Array Value} (hb : w.heap[g]? = some (.cells cells t (0, 0))) (ht : ∀ q, q ∈ e :: d.E → q ≠ t) : d.L e w base (fun k => ok k ∧ k ≠ g) v xs := L_step h (fun _ _ hr => R_types hr hb ht)
theorem L_over' {u : Value} {e' : Nat} {W : World} (h : d.L e W base ok u xs) (hty : ∀ k, v.ownBlock = some k → ∃ cells, W.heap[k]? = some (.cells cells e' (0, 0))) (ht : ∀ q, q ∈ e :: d.E → q ≠ e') (hg : W.grownBy w1 v.ownBlock) : d.L e w1 base ok u xs := L_step h (fun _ _ hr => R_over' hr hty ht hg)
theorem L_new' {u : Value} {W : World} (h : d.L e w1 W.heap.size ok v xs) (hlt : ∀ k, u.ownBlock = some k → k < W.heap.size) : d.L e w1 W.heap.size (fun k => ok k ∧ some k ≠ u.ownBlock) v xs := L_step h (fun _ _ hr => R_new' hr hlt)
theorem L_elder' {u : Value} {W : World} (hu : d.L e W base ok u xs) (hbase : ∀ k, v.ownBlock = some k → W.heap.size ≤ k) (hb : Below W.heap.size W w1) : d.L e w1 base (fun k => ok k ∧ some k ≠ v.ownBlock) u xs := L_step hu (fun _ _ hr => R_elder' hr hbase hb)
theorem L_after {u v1 : Value} {W : World} (h : d.L e W base (fun k => ok k ∧ some k ≠ v.ownBlock) u xs) (hg : W.grownBy w1 v.ownBlock) (hat : v1.ownBlock = v.ownBlock ∨ ∃ b, v1.ownBlock = some b ∧ W.heap.size ≤ b) : d.L e w1 base (fun k => ok k ∧ some k ≠ v1.ownBlock) u xs := L_step h (fun _ _ hr => R_after hr hg hat)
theorem L_lt (h : d.L e w base ok v xs) : ∀ k, v.ownBlock = some k → k < w.heap.size := by
  obtain ⟨A, c, rfl, hr⟩ := h
  rw [L_ob A _ (xs ++ [RowMark.mark]).length c]
  exact R_lt hr
theorem L_base (h : d.L e w base ok v xs) : ∀ k, v.ownBlock = some k → base ≤ k := by
  obtain ⟨A, c, rfl, hr⟩ := h
  rw [L_ob A _ (xs ++ [RowMark.mark]).length c]
  exact R_base hr
theorem L_typed (h : d.L e w base ok v xs) : ∀ k, v.ownBlock = some k → ∃ cells, w.heap[k]? = some (.cells cells e (0, 0)) := by
  obtain ⟨A, c, rfl, hr⟩ := h
  rw [L_ob A _ (xs ++ [RowMark.mark]).length c]
  exact R_typed hr
theorem L_ne (h : d.L e w base ok v xs) {g t : Nat} {cells : Array Value} (hb : w.heap[g]? = some (.cells cells t (0, 0))) (ht : e ≠ t) : some g ≠ v.ownBlock := by
  obtain ⟨A, c, rfl, hr⟩ := h
  rw [L_ob A _ (xs ++ [RowMark.mark]).length c]
  exact R_ne hr hb ht
theorem L_slice (h : d.L e w base ok v xs) : ∃ A c, v = .slice A xs.length c := by
  obtain ⟨A, c, rfl, hr⟩ := h
  exact ⟨A, c, rfl⟩
theorem L_full' {A : Option Addr} {n c : Nat} (h : d.L e w base ok (.slice A n c) xs) : (xs ++ [RowMark.mark]).length ≤ c ∧ d.C w A (xs ++ [RowMark.mark]).length (xs ++ [RowMark.mark]) := by
  obtain ⟨A', c', he, hr⟩ := h
  injection he with h1 h2 h3
  subst h1; subst h3
  exact (R_reads' hr).2
theorem L_reads' {A : Option Addr} {n c : Nat} (h : d.L e w base ok (.slice A n c) xs) : n = xs.length ∧ n ≤ c ∧ d.C w A xs.length xs := by
  obtain ⟨h1, h2⟩ := L_full' h
  obtain ⟨A', c', he, hr⟩ := h
  injection he with h3 h4 h5
  subst h4
  have := C_take (m := xs.length) h2 (by rw [List.length_append]; omega)
  rw [List.take_left] at this
  refine ⟨rfl, by rw [List.length_append] at h1; omega, this⟩
end
end Kd
end Go.Proofs.YtmhmappdohddeaaW.PrintWords
