/- Chapter 20: the type of a tree, by the program and by the document; may a tree be. -/
import Derived.Test.YtaanmljlbhkonaaT4
import Derived.Test.YtaanmljlbhkonaaT5
namespace Go.Proofs.Ytaanmljlbhkonaa.AD
open Go.Proofs
set_option linter.unusedVariables false
set_option linter.unusedSimpArgs false
set_option maxRecDepth 100000

def leafT (o : Int) : Int := if o = 5 then 2 else if o = 7 then 3 else if o = 26 ∨ o = 27 then 4 else 1
def combT (o : Int) : List Int → Int
  | [] => leafT o
  | [a] => oneT o a
  | a :: b :: _ => twoT o a b
mutual
def typeT : Ex → Int
  | .mk o _ xs => combT o (typesT xs)
def typesT : List Ex → List Int
  | [] => []
  | a :: r => typeT a :: typesT r
end

/-- Each kind with as many parts as it has. -/
inductive Shaped : Ex → Prop
  | mk (o : Int) (t : ByteArray) (xs : List Ex) : arityI o = xs.length → (∀ a, a ∈ xs → Shaped a) → Shaped (.mk o t xs)

theorem arity0 {op : Int} (h : arityI op = 0) : op = 1 ∨ op = 2 ∨ op = 5 ∨ op = 7 ∨ op = 26 ∨ op = 27 := by
  simp only [arityI] at h
  split at h
  · assumption
  · split at h
    · omega
    · split at h <;> omega
theorem arity_le (op : Int) : arityI op ≤ 2 := by
  simp only [arityI]
  (repeat' split) <;> omega

theorem Shaped.args {o : Int} {t : ByteArray} {xs : List Ex} (h : Shaped (.mk o t xs)) : (arityI o = 0 ∧ xs = []) ∨ (arityI o = 1 ∧ ∃ a, xs = [a] ∧ Shaped a) ∨ (arityI o = 2 ∧ ∃ a b, xs = [a, b] ∧ Shaped a ∧ Shaped b) := by
  cases h with
  | mk _ _ _ h1 h2 =>
    have := arity_le o
    match xs, h1, h2 with
    | [], h1, _ => exact .inl ⟨h1, rfl⟩
    | [a], h1, h2 => exact .inr (.inl ⟨h1, a, rfl, h2 a (by simp)⟩)
    | [a, b], h1, h2 => exact .inr (.inr ⟨h1, a, b, rfl, h2 a (by simp), h2 b (by simp)⟩)
    | _ :: _ :: _ :: _, h1, _ => simp at h1; omega

theorem oneT_range {o a : Int} (h : 0 ≤ a ∧ a ≤ 4) : 0 ≤ oneT o a ∧ oneT o a ≤ 4 := by simp only [oneT]; (repeat' split) <;> omega
theorem twoT_range {o a b : Int} (h : 0 ≤ a ∧ a ≤ 4) : 0 ≤ twoT o a b ∧ twoT o a b ≤ 4 := by simp only [twoT]; (repeat' split) <;> omega

theorem typeT_range (e : Ex) : Shaped e → 0 ≤ typeT e ∧ typeT e ≤ 4 := by
  induction e using Ex.ind with
  | h o t xs ih =>
    intro h
    rcases h.args with ⟨_, rfl⟩ | ⟨_, a, rfl, ha⟩ | ⟨_, a, b, rfl, ha, hb⟩
    · simp only [typeT, typesT, combT, leafT]; (repeat' split) <;> omega
    · simp only [typeT, typesT, combT]; exact oneT_range (ih a (by simp) ha)
    · simp only [typeT, typesT, combT]; exact twoT_range (ih a (by simp) ha)

theorem Type_spec (e : Ex) : Shaped e → pureF Try.prog 24 [.p (enc e)] (.p (.int .u8 (typeT e))) := by
  induction e using Ex.ind with
  | h o t xs ih =>
    intro h
    refine pureF_of f24_ok fun H => ?_
    rcases h.args with ⟨h0, rfl⟩ | ⟨h0, a, rfl, ha⟩ | ⟨h0, a, b, rfl, ha, hb⟩
    · rcases arity0 h0 with rfl | rfl | rfl | rfl | rfl | rfl
      all_goals
        repeat' ((conv => whnf); first | refine splitB_t rfl ?_ | refine splitB_f rfl ?_ | exact ⟨rfl, rfl⟩)
    · have iha := ih a (by simp) ha
      have hone := one_spec o (typeT a) h0
      obtain ⟨o', t', xs'⟩ := a
      rcases arity1 h0 with rfl | rfl | rfl | rfl | rfl
      all_goals
        repeat' ((conv => whnf); first | refine splitB_t rfl ?_ | refine splitB_f rfl ?_ | refine CallVC.pureF iha rfl ?_ | refine CallVC.pureF hone rfl ?_ | exact ⟨rfl, rfl⟩ | refine ⟨rfl, enc (.mk o' t' xs'), ⟨by decide, rfl⟩, ?_⟩)
    · have iha := ih a (by simp) ha
      have ihb := ih b (by simp) hb
      have htwo := two_spec o (typeT a) (typeT b) h0
      obtain ⟨o', t', xs'⟩ := a
      obtain ⟨o2, t2, xs2⟩ := b
      rcases arity2 h0 with rfl | rfl | rfl | rfl | rfl | rfl | rfl | rfl | rfl | rfl | rfl | rfl | rfl | rfl | rfl | rfl
      all_goals
        repeat' ((conv => whnf); first | refine splitB_t rfl ?_ | refine splitB_f rfl ?_ | refine CallVC.pureF iha rfl ?_ | refine CallD.pureF ihb rfl ?_ | refine CallD.pureF htwo rfl ?_ | exact ⟨rfl, rfl⟩ | refine ⟨rfl, enc (.mk o' t' xs'), ⟨by decide, rfl⟩, ?_⟩ | refine ⟨rfl, enc (.mk o2 t2 xs2), ⟨by decide, rfl⟩, ?_⟩)

theorem row_get {op i : Int} (h : 0 ≤ i ∧ i ≤ 4) : (rowOf op)[i.toNat * 1]? = some (.int .u8 (oneT op i)) := by
  have : i = 0 ∨ i = 1 ∨ i = 2 ∨ i = 3 ∨ i = 4 := by omega
  rcases this with rfl | rfl | rfl | rfl | rfl <;> rfl
theorem grid_get {op i : Int} (h : 0 ≤ i ∧ i ≤ 4) : ((gridOf op).drop (i.toNat * 5)).take 5 = rowTwo op i := by
  have : i = 0 ∨ i = 1 ∨ i = 2 ∨ i = 3 ∨ i = 4 := by omega
  rcases this with rfl | rfl | rfl | rfl | rfl <;> rfl
theorem row2_get {op a i : Int} (h : 0 ≤ i ∧ i ≤ 4) : (rowTwo op a)[i.toNat * 1]? = some (.int .u8 (twoT op a i)) := by
  have : i = 0 ∨ i = 1 ∨ i = 2 ∨ i = 3 ∨ i = 4 := by omega
  rcases this with rfl | rfl | rfl | rfl | rfl <;> rfl

theorem typed_spec (e : Ex) : Shaped e → pureF Try.prog 25 [.p (enc e)] (.p (.int .u8 (typeT e))) := by
  induction e using Ex.ind with
  | h o t xs ih =>
    intro h
    refine pureF_of f25_ok fun H => ?_
    rcases h.args with ⟨h0, rfl⟩ | ⟨h0, a, rfl, ha⟩ | ⟨h0, a, b, rfl, ha, hb⟩
    · rcases arity0 h0 with rfl | rfl | rfl | rfl | rfl | rfl
      all_goals
        repeat' ((conv => whnf); first | refine splitB_t rfl ?_ | refine splitB_f rfl ?_ | exact ⟨rfl, rfl⟩)
    · have iha := ih a (by simp) ha
      have hra := typeT_range a ha
      have hs := single_spec o h0
      obtain ⟨o', t', xs'⟩ := a
      (conv => whnf)
      refine splitB_t rfl ?_
      (conv => whnf)
      refine CallD.pureF hs rfl ?_
      (conv => whnf)
      refine ⟨rfl, enc (.mk o' t' xs'), ⟨by decide, rfl⟩, ?_⟩
      (conv => whnf)
      refine CallD.pureF iha rfl ?_
      (conv => whnf)
      refine ⟨⟨by omega, by omega⟩, _, row_get hra, ?_⟩
      exact ⟨rfl, rfl⟩
    · have iha := ih a (by simp) ha
      have ihb := ih b (by simp) hb
      have hra := typeT_range a ha
      have hrb := typeT_range b hb
      have hs := of_spec o h0
      obtain ⟨o', t', xs'⟩ := a
      obtain ⟨o2, t2, xs2⟩ := b
      (conv => whnf)
      refine splitB_f rfl ?_
      (conv => whnf)
      refine splitB_t rfl ?_
      (conv => whnf)
      refine CallD.pureF hs rfl ?_
      (conv => whnf)
      refine ⟨rfl, enc (.mk o' t' xs'), ⟨by decide, rfl⟩, ?_⟩
      (conv => whnf)
      refine CallD.pureF iha rfl ?_
      (conv => whnf)
      refine ⟨⟨by omega, by omega⟩, by simp only [gridOf, rowTwo, List.length_append, List.length_cons, List.length_nil]; omega, ?_⟩
      rw [grid_get hra]
      (conv => whnf)
      refine ⟨rfl, enc (.mk o2 t2 xs2), ⟨by decide, rfl⟩, ?_⟩
      (conv => whnf)
      refine CallD.pureF ihb rfl ?_
      (conv => whnf)
      refine ⟨⟨by omega, by omega⟩, _, row2_get hrb, ?_⟩
      exact ⟨rfl, rfl⟩

end Go.Proofs.Ytaanmljlbhkonaa.AD
