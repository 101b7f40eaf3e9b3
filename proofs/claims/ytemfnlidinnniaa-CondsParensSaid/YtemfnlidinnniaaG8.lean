/- A call that answers true, seen from outside. -/
import Derived.Test.YtemfnlidinnniaaRows
import Derived.Test.YtemfnlidinnniaaG3
import Derived.WalkKit
import Derived.ProofKit
import Derived.OpenShut
import Derived.ShutString
import Derived.ChangeOld
import Derived.Below
import Derived.SizedLaws
namespace Go.Proofs.Ytemfnlidinnniaa.AD
open Go.Proofs Go.ChangeShapes Go.WideShapes Go.ChangeAt Go.RowKit

theorem stays_none (W : World) : Stays (fun _ => False) W (blocks []) W := ⟨Nat.le_refl _, fun b _ _ => ⟨fun ⟨i, m, h, _⟩ => by simp at h, rfl⟩⟩

theorem inv_none (W : World) : Inv [] W [] [] := ⟨rfl, fun i j m m' b h => by simp at h, fun i o h => by simp at h, fun k o h => by simp at h⟩

theorem below_of {W W' : World} {μ' : List MI} (h : Le [] W μ' W') : Below W.heap.size W W' :=
  ⟨h.os, h.tape, h.output, h.stays.1, fun k hk => (h.stays.2 k hk fun ⟨i, m, h, _⟩ => by simp at h).2⟩

/-- A call that answers true, seen from outside. -/
theorem true_calls {P : Program} {f : Nat} {ps : List PV} (h : pureF P f (ps.map AV.p) (.p (.bool true))) {W : World} {xs : Array Value} (hl : xs.size = ps.length) (hx : ∀ (j : Nat) (x : Value) (p : PV), xs[j]? = some x → ps[j]? = some p → VP (fun _ => False) W x p) :
    Calls P f xs W fun e W' => e = .returned (.bool true) ∧ Below W.heap.size W W' := by
  refine (h [] [] W xs (inv_none W) ⟨by simpa using hl, fun j x a hj ha => ?_⟩).mono fun e W' hw => ?_
  · rw [List.getElem?_map] at ha
    obtain ⟨p, hp, rfl⟩ := Option.map_eq_some_iff.1 ha
    exact .p _ _ ((hx j x p hj hp).mono (stays_none W))
  · obtain ⟨v, r, H', μ', rfl, ⟨rfl, rfl⟩, _, hv, hle⟩ := hw
    rw [hv.bool_inv]
    exact ⟨rfl, below_of hle⟩


theorem size_of_maxLen {s : ByteArray} (h : s.size ≤ maxLen) : (s.size : Int) ≤ 9223372036854775807 := by
  have : maxLen ≤ 9223372036854775807 := by decide +kernel
  omega

end Go.Proofs.Ytemfnlidinnniaa.AD
