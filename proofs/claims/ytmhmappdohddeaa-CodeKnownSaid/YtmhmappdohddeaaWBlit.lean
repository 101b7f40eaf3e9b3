/- A constant string made a slice of bytes: new bytes, that are only read. -/
import Derived.Test.YtmhmappdohddeaaWByte
set_option linter.unusedVariables false
namespace Go.Proofs.YtmhmappdohddeaaW.PrintWords
open Go.RowKit
namespace Kd
section
variable {P : Program} {ops : Array Oper} {rest : List Oper} {o : Oper} {a : Act} {Q : Exit → Act → World → Prop} {Kc : Act → World → Prop}
/-- The world behind a constant string made a slice of bytes. -/
def blitWorld (W : World) (e : TypeId) (inner : List Value) : World := (W.alloc (.cells inner.toArray e)).freeze ⟨W.heap.size, inner.length, none⟩ 1
theorem blit_old (W : World) (e : TypeId) (inner : List Value) (j : Nat) (hj : j < W.heap.size) : (blitWorld W e inner).heap[j]? = W.heap[j]? := by
  have h1 : W.heap.size ≠ j := by omega
  simp [blitWorld, World.freeze, World.alloc, -World.alloc_eq, Array.getElem?_modify, Array.getElem?_push, h1, Ne.symm h1]
theorem blit_at (W : World) (e : TypeId) (inner : List Value) : (blitWorld W e inner).heap[W.heap.size]? = some (.cells inner.toArray e (inner.length, inner.length + 1)) := by
  simp [blitWorld, World.freeze, World.alloc, -World.alloc_eq]
  rw [Array.getElem_modify_self]
  simp
theorem blit_below (W : World) (e : TypeId) (inner : List Value) : Below W.heap.size W (blitWorld W e inner) := by
  refine ⟨rfl, rfl, rfl, ?_, fun i hi => blit_old W e inner i hi⟩
  simp [blitWorld, World.freeze, World.alloc, -World.alloc_eq]
theorem blit_C (W : World) (e : TypeId) (xs : List Int) (hs : xs.length ≤ 9223372036854775807) : (Kd.int .u8).C (blitWorld W e (xs.map (Value.int .u8))) (some ⟨W.heap.size, 0, none⟩) xs.length xs := by
  refine C_of_reads (d := (0 : Int)) (h1 := fun _ => rfl) ⟨rfl, hs, fun _ => ⟨_, rfl, fun j hj => ?_⟩⟩
  rw [add_plain]
  simp only [World.cell?, blit_at]
  have e1 : xs.getD j 0 = xs[j] := by rw [List.getD_eq_getElem?_getD, List.getElem?_eq_getElem hj]; rfl
  rw [e1]
  simp [hj]
theorem blit_run {W : World} (t e : TypeId) (inner : List Value) (n c : Nat) (ht : P.underlying t = some (.slice e)) (he : P.underlying e = some (.int .u8)) :
    (convert t t (.slice (some ⟨W.heap.size, 0, none⟩) n c)).run P (W.alloc (.cells inner.toArray e)) = .ok (.slice (some ⟨W.heap.size, 0, none⟩) n c) (blitWorld W e inner) := by
  have hsh : (W.alloc (.cells inner.toArray e)).shape? W.heap.size = some (e, inner.length) := by
    simp [World.shape?, World.alloc, -World.alloc_eq]
  simp [convert, run_underlying ht, run_underlying he, markStringish, blitWorld, hsh, Result.andThen]
theorem blit_new {W : World} {o2 : Oper} (hgd : o.guard = none) {N : Tmp} (_hd : o.dst = some N) (hgd2 : o2.guard = none) (t e : TypeId) (x : Operand) (ho : o2.op = .convert t t x) (xs : List Int)
    (ht : P.underlying t = some (.slice e)) (he : P.underlying e = some (.int .u8)) (hn : xs.length ≤ 9223372036854775807)
    (hrun : (execOp a.eval o).run P W = .ok (.value (.slice (some ⟨W.heap.size, 0, none⟩) xs.length xs.length)) (W.alloc (.cells (xs.map (Value.int .u8)).toArray e)))
    (hx : (a.put o.dst (.slice (some ⟨W.heap.size, 0, none⟩) xs.length xs.length)).eval x = .slice (some ⟨W.heap.size, 0, none⟩) xs.length xs.length)
    (h : ∀ A c w1, (Kd.int .u8).C w1 A xs.length xs → xs.length ≤ c → Below W.heap.size W w1 → wpList P ops Q rest ((a.put o.dst (.slice A xs.length c)).put o2.dst (.slice A xs.length c)) w1) : wpList P ops Q (o :: o2 :: rest) a W := by
  refine event_run hgd hrun (event_run hgd2 ?_ (h _ _ _ (blit_C W e xs hn) (Nat.le_refl _) (blit_below W e _)))
  have hr := blit_run (P := P) (W := W) t e (xs.map (Value.int .u8)) xs.length xs.length ht he
  simp [execOp, ho, hx, hr]
end
end Kd
end Go.Proofs.YtmhmappdohddeaaW.PrintWords
