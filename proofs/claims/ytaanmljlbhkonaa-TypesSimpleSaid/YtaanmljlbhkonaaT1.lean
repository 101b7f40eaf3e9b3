/- Chapter 20: trees, and how large they are. -/
import Derived.Test.YtaanmljlbhkonaaIr
namespace Go.Proofs.Ytaanmljlbhkonaa.AD
open Go.Proofs
set_option linter.unusedVariables false
set_option linter.unusedSimpArgs false
set_option maxRecDepth 100000

inductive Ex where
  | mk (op : Int) (text : ByteArray) (args : List Ex)

theorem Ex.ind {motive : Ex → Prop} (h : ∀ o t xs, (∀ a, a ∈ xs → motive a) → motive (.mk o t xs)) (e : Ex) : motive e := by
  match e with
  | .mk o t xs => exact h o t xs fun a ha => Ex.ind h a
termination_by SizeOf.sizeOf e
decreasing_by
  have := List.sizeOf_lt_of_mem ha
  simp only [Ex.mk.sizeOf_spec]
  omega

mutual
def enc : Ex → PV
  | .mk o t xs => .agg [.int .u8 o, .str t, .list 3 (encs xs)]
def encs : List Ex → List PV
  | [] => []
  | a :: r => enc a :: encs r
end

theorem encs_map : ∀ l, encs l = l.map enc
  | [] => rfl
  | a :: r => by rw [encs, encs_map r]; rfl

mutual
def size : Ex → Int → Int
  | .mk _ _ xs, most => sizes xs most 1
def sizes : List Ex → Int → Int → Int
  | [], most, n => n
  | a :: r, most, n => if n ≤ most then sizes r most (n + size a (most - n)) else n
end

theorem sizes_le : (∀ e most, 1 ≤ size e most ∧ (size e most ≤ 1 ∨ size e most ≤ most + 1)) ∧ ∀ l most n, 1 ≤ n → n ≤ sizes l most n ∧ (sizes l most n ≤ n ∨ sizes l most n ≤ most + 1) := by
  have main : ∀ l, (∀ a, a ∈ l → ∀ most, 1 ≤ size a most ∧ (size a most ≤ 1 ∨ size a most ≤ most + 1)) → ∀ most n, 1 ≤ n → n ≤ sizes l most n ∧ (sizes l most n ≤ n ∨ sizes l most n ≤ most + 1) := by
    intro l
    induction l with
    | nil => intro _ most n h; simp only [sizes]; omega
    | cons a r ih =>
      intro hl most n h
      simp only [sizes]
      split
      · have := hl a (by simp) (most - n)
        have := ih (fun b hb => hl b (by simp [hb])) most (n + size a (most - n)) (by omega)
        omega
      · omega
  have one : ∀ e most, 1 ≤ size e most ∧ (size e most ≤ 1 ∨ size e most ≤ most + 1) := by
    intro e
    induction e using Ex.ind with
    | h o t xs ih => intro most; simp only [size]; have := main xs ih most 1 (by omega); omega
  exact ⟨one, fun l => main l fun a _ => one a⟩

/-- Nothing in it is larger than can be counted. -/
inductive Fits : Ex → Prop
  | mk (o : Int) (t : ByteArray) (xs : List Ex) : 0 ≤ o → (t.size : Int) ≤ 9223372036854775807 → (xs.length : Int) ≤ 9223372036854775807 → (∀ a, a ∈ xs → Fits a) → Fits (.mk o t xs)

theorem encs_get {xs : List Ex} {i : Nat} {a : Ex} (h : xs[i]? = some a) : (encs xs)[i]? = some (enc a) := by rw [encs_map, List.getElem?_map, h]; rfl
theorem encs_len (xs : List Ex) : (encs xs).length = xs.length := by rw [encs_map, List.length_map]

theorem Size_spec (e : Ex) : ∀ most : Int, -4611686018427387904 ≤ most → most ≤ 4611686018427387904 → pureF Try.prog 8 [.p (enc e), .p (.int .i64 most)] (.p (.int .i64 (size e most))) := by
  induction e using Ex.ind with
  | h o t xs ih =>
    intro most h1 h2
    refine pureF_of f8_ok fun H => ?_
    (conv => whnf)
    intro R hR
    have key : ∀ (rest : List Ex) (i : Nat) (n : Int), xs.drop i = rest → (i : Int) + 1 ≤ n → (n ≤ 1 ∨ n ≤ most + 1) → sizes rest most n = size (.mk o t xs) most → R [(1, .p (.int .i64 most)), (2, .ref (.l 0) 0), (5, .p (.int .i64 n)), (6, .p (.int .i64 i))] H [.cells [.p (.int .u8 o), .p (.str t), .p (.list 3 (encs xs))]] := by
      intro rest
      induction rest with
      | nil =>
        intro i n hd hn hb hs
        have hl := drop_nil hd
        have he := encs_len xs
        refine hR _ _ _ ?_
        (conv => whnf)
        refine splitB_f (decide_eq_false (by omega)) ?_
        exact ⟨by rw [← hs]; rfl, rfl⟩
      | cons a r ihr =>
        intro i n hd hn hb hs
        obtain ⟨hg, hd', hi⟩ := drop_cons hd
        have he := encs_len xs
        refine hR _ _ _ ?_
        (conv => whnf)
        refine splitB_t (decide_eq_true (by omega)) ?_
        (conv => whnf)
        refine splitB_dec (fun h3 => ?_) (fun h3 => ?_)
        · (conv => whnf)
          obtain ⟨o', t', xs'⟩ := a
          refine ⟨rfl, enc (.mk o' t' xs'), ⟨by omega, encs_get hg⟩, ?_⟩
          (conv => whnf)
          rw [IntWalk.i64_in _ (by omega)]
          refine CallVC.pureF (ih (.mk o' t' xs') (List.mem_of_getElem? hg) (most - n) (by omega) (by omega)) rfl ?_
          (conv => whnf)
          have hsz := sizes_le.1 (.mk o' t' xs') (most - n)
          rw [IntWalk.i64_in (↑i + 1) (by omega), IntWalk.i64_in _ (by omega)]
          refine ihr (i + 1) _ hd' (by omega) (by omega) ?_
          rw [← hs]
          simp only [sizes, if_pos h3]
        · exact ⟨by rw [← hs]; simp only [sizes, if_neg h3], rfl⟩
    exact key xs 0 1 rfl (by omega) (by omega) rfl

end Go.Proofs.Ytaanmljlbhkonaa.AD
