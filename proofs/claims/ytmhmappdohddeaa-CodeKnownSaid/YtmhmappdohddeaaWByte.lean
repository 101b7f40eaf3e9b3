/- []byte of a string: new bytes, that are only read. -/
import Derived.Test.YtmhmappdohddeaaWWords
import Derived.Lib.ConvBytes
set_option linter.unusedVariables false
namespace Go.Proofs.YtmhmappdohddeaaW.PrintWords
open Go.RowKit
/-- A string's bytes, as numbers. -/
def numsOf (s : ByteArray) : List Int := s.data.toList.map fun b => ((b.toNat : Nat) : Int)
theorem numsOf_length (s : ByteArray) : (numsOf s).length = s.size := by
  unfold numsOf
  rw [List.length_map, Array.length_toList]
  rfl
namespace Kd
theorem bytes_below (w : World) (e : TypeId) (s : ByteArray) : Below w.heap.size w (Lib.bytesWorld w e s) := by
  refine ⟨rfl, ?_, rfl, ?_, fun i hi => Lib.bytesWorld_at_old w e s i hi⟩
  · exact (below_drew1 (Below.refl w.heap.size w)).tape
  · rw [Lib.bytesWorld_size]; omega
theorem bytes_C (w : World) (e : TypeId) (s : ByteArray) (hs : (s.size : Int) ≤ 9223372036854775807) : (Kd.int .u8).C (Lib.bytesWorld w e s) (some ⟨w.heap.size, 0, none⟩) (numsOf s).length (numsOf s) := by
  refine C_of_reads (d := (0 : Int)) (h1 := fun _ => rfl) ⟨rfl, by rw [numsOf_length]; omega, fun _ => ⟨_, rfl, fun j hj => ?_⟩⟩
  rw [numsOf_length] at hj
  rw [add_plain, Lib.bytesWorld_cell w e s j hj]
  have hl : j < s.data.toList.length := by rw [Array.length_toList]; exact hj
  have e1 : (numsOf s).getD j 0 = ((s.data.toList[j].toNat : Nat) : Int) := by
    unfold numsOf
    rw [List.getD_eq_getElem?_getD, List.getElem?_map, List.getElem?_eq_getElem hl]
    rfl
  have e2 : s.data.toList.getD j 0 = s.data.toList[j] := by
    rw [List.getD_eq_getElem?_getD, List.getElem?_eq_getElem hl]
    rfl
  rw [e1, e2]
section
variable {P : Program} {ops : Array Oper} {rest : List Oper} {o : Oper} {a : Act} {Q : Exit → Act → World → Prop} {Kc : Act → World → Prop}
theorem bytes_run {W : World} (src t e : TypeId) (x : Operand) (ho : o.op = .convert src t x) (s : ByteArray) (hx : a.eval x = .string s) {u : TypeDesc} (hs : P.underlying src = some u) (ht : P.underlying t = some (.slice e)) (he : P.underlying e = some (.int .u8)) :
    (execOp a.eval o).run P W = .ok (.value (.slice (some ⟨W.heap.size, 0, none⟩) (numsOf s).length (grownCap W s.size 0 e))) (Lib.bytesWorld W e s) := by
  have hr := Lib.run_convert_string_bytes (P := P) W src t e s hs ht he
  rw [numsOf_length]
  simp [execOp, ho, hx, hr]
theorem bytes_new {W : World} (hgd : o.guard = none) {N : Tmp} (_hd : o.dst = some N) (src t e : TypeId) (x : Operand) (ho : o.op = .convert src t x) (s : ByteArray) (hx : a.eval x = .string s) {u : TypeDesc} (hs : P.underlying src = some u) (ht : P.underlying t = some (.slice e)) (he : P.underlying e = some (.int .u8)) (hn : (s.size : Int) ≤ 9223372036854775807) (xs : List Int) (hxs : xs = numsOf s)
    (h : ∀ A c w1, (Kd.int .u8).C w1 A xs.length xs → xs.length ≤ c → Below W.heap.size W w1 → wpList P ops Q rest (a.put o.dst (.slice A xs.length c)) w1) : wpList P ops Q (o :: rest) a W := by
  subst hxs
  exact event_run hgd (bytes_run src t e x ho s hx hs ht he) (h _ _ _ (bytes_C W e s hn) (by rw [numsOf_length]; exact grownCap_ge W s.size 0 e) (bytes_below W e s))
theorem bytes_step {W : World} (hw : Region.wanted o (yielded ops a.tmps) = true) {N : Tmp} (_hd : o.dst = some N) (src t e : TypeId) (x : Operand) (ho : o.op = .convert src t x) (s : ByteArray) (hx : a.eval x = .string s) {u : TypeDesc} (hs : P.underlying src = some u) (ht : P.underlying t = some (.slice e)) (he : P.underlying e = some (.int .u8)) (hn : (s.size : Int) ≤ 9223372036854775807) (xs : List Int) (hxs : xs = numsOf s)
    (h : ∀ A c w1, (Kd.int .u8).C w1 A xs.length xs → xs.length ≤ c → Below W.heap.size W w1 → Kc (a.put o.dst (.slice A xs.length c)) w1) : if Region.wanted o (yielded ops a.tmps) = true then Oper.wp P o a W Kc Q else Kc (a.put o.dst undef) W := by
  subst hxs
  rw [if_pos hw]
  unfold Oper.wp
  rw [bytes_run src t e x ho s hx hs ht he]
  exact h _ _ _ (bytes_C W e s hn) (by rw [numsOf_length]; exact grownCap_ge W s.size 0 e) (bytes_below W e s)
end
end Kd
end Go.Proofs.YtmhmappdohddeaaW.PrintWords
