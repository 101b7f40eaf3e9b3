/- Chapter 22: licensees, and how large they are. -/
import Derived.Test.YthmlninecfjjgaaIr
namespace Go.Proofs.Ythmlninecfjjgaa.AD
open Go.Proofs
set_option linter.unusedVariables false
set_option linter.unusedSimpArgs false
set_option maxRecDepth 100000

inductive Li where
  | mk (op : Int) (text : ByteArray) (k : Int) (args : List Li)

theorem Li.ind {motive : Li → Prop} (h : ∀ o t k xs, (∀ a, a ∈ xs → motive a) → motive (.mk o t k xs)) (e : Li) : motive e := by
  match e with
  | .mk o t k xs => exact h o t k xs fun a ha => Li.ind h a
termination_by SizeOf.sizeOf e
decreasing_by
  have := List.sizeOf_lt_of_mem ha
  simp only [Li.mk.sizeOf_spec]
  omega

mutual
def encL : Li → PV
  | .mk o t k xs => .agg [.int .u8 o, .str t, .int .i64 k, .list 4 (encLs xs)]
def encLs : List Li → List PV
  | [] => []
  | a :: r => encL a :: encLs r
end
theorem encLs_map : ∀ l, encLs l = l.map encL
  | [] => rfl
  | a :: r => by rw [encLs, encLs_map r]; rfl
theorem encLs_get {xs : List Li} {i : Nat} {a : Li} (h : xs[i]? = some a) : (encLs xs)[i]? = some (encL a) := by rw [encLs_map, List.getElem?_map, h]; rfl
theorem encLs_len (xs : List Li) : (encLs xs).length = xs.length := by rw [encLs_map, List.length_map]

/-- How large, and how many parts. -/
def lcap (t : ByteArray) (most : Int) : Int := 1 + (if most < t.size then most else t.size)
mutual
def lw : Li → Int → Int
  | .mk _ t _ xs, most => lws xs most (lcap t most)
def lws : List Li → Int → Int → Int
  | [], most, n => n
  | a :: r, most, n => if n ≤ most then lws r most (n + lw a (most - n)) else n
end
mutual
def lcnt : Li → Int
  | .mk _ _ _ xs => 1 + lcnts xs
def lcnts : List Li → Int
  | [] => 0
  | a :: r => lcnt a + lcnts r
end

theorem lws_le : (∀ e most, 0 ≤ most → 1 ≤ lw e most ∧ lw e most ≤ most + 1) ∧ ∀ l most n, 0 ≤ most → 1 ≤ n → n ≤ most + 1 → n ≤ lws l most n ∧ lws l most n ≤ most + 1 := by
  have main : ∀ l, (∀ a, a ∈ l → ∀ most, 0 ≤ most → 1 ≤ lw a most ∧ lw a most ≤ most + 1) → ∀ most n, 0 ≤ most → 1 ≤ n → n ≤ most + 1 → n ≤ lws l most n ∧ lws l most n ≤ most + 1 := by
    intro l
    induction l with
    | nil => intro _ most n _ _ _; simp only [lws]; omega
    | cons a r ih =>
      intro hl most n h0 h1 h2
      simp only [lws]
      split
      · have := hl a (by simp) (most - n) (by omega)
        have := ih (fun b hb => hl b (by simp [hb])) most (n + lw a (most - n)) h0 (by omega) (by omega)
        omega
      · omega
  have one : ∀ e most, 0 ≤ most → 1 ≤ lw e most ∧ lw e most ≤ most + 1 := by
    intro e
    induction e using Li.ind with
    | h o t k xs ih =>
      intro most h0
      simp only [lw]
      have hc : 1 ≤ lcap t most ∧ lcap t most ≤ most + 1 := by simp only [lcap]; split <;> omega
      have := main xs ih most (lcap t most) h0 (by omega) (by omega)
      omega
  exact ⟨one, fun l => main l fun a _ => one a⟩

/-- Nothing in it is larger than can be counted. -/
inductive FitsL : Li → Prop
  | mk (o : Int) (t : ByteArray) (k : Int) (xs : List Li) : 0 ≤ o → -9223372036854775808 ≤ k → k ≤ 9223372036854775807 → (t.size : Int) ≤ 9223372036854775807 → (xs.length : Int) ≤ 9223372036854775807 → (∀ a, a ∈ xs → FitsL a) → FitsL (.mk o t k xs)

/-- No row and no text is long. -/
inductive FewL : Li → Prop
  | mk (o : Int) (t : ByteArray) (k : Int) (xs : List Li) : t.size ≤ 20000 → xs.length ≤ 20000 → (∀ a, a ∈ xs → FewL a) → FewL (.mk o t k xs)

theorem fewL_of (e : Li) : ∀ most : Int, 0 ≤ most → most ≤ 20000 → lw e most ≤ most → FewL e ∧ lcnt e ≤ lw e most := by
  induction e using Li.ind with
  | h o t k xs ih =>
    intro most h0 hm h
    have main : ∀ (l : List Li) (n : Int), (∀ a, a ∈ l → a ∈ xs) → 1 ≤ n → n ≤ most + 1 → lws l most n ≤ most → n + l.length ≤ most ∧ (∀ a, a ∈ l → FewL a) ∧ n + lcnts l ≤ lws l most n := by
      intro l
      induction l with
      | nil => intro n _ _ _ h; simp only [lws] at h; exact ⟨by simpa using h, (fun a ha => by cases ha), by simp [lcnts, lws]⟩
      | cons a r ihr =>
        intro n hl h1 h2 h
        simp only [lws] at h
        split at h
        · rename_i h3
          have h4 := lws_le.1 a (most - n) (by omega)
          have h5 := lws_le.2 r most (n + lw a (most - n)) h0 (by omega) (by omega)
          obtain ⟨g1, g2⟩ := ih a (hl a (by simp)) (most - n) (by omega) (by omega) (by omega)
          obtain ⟨g3, g4, g5⟩ := ihr _ (fun b hb => hl b (by simp [hb])) (by omega) (by omega) h
          refine ⟨by simp; omega, fun b hb => ?_, ?_⟩
          · cases hb with
            | head => exact g1
            | tail _ hb => exact g4 b hb
          · simp only [lcnts, lws, if_pos h3]; omega
        · omega
    simp only [lw] at h
    have hc : 1 ≤ lcap t most ∧ lcap t most ≤ most + 1 := by simp only [lcap]; split <;> omega
    obtain ⟨g1, g2, g3⟩ := main xs (lcap t most) (fun _ h => h) hc.1 hc.2 h
    have ht : t.size ≤ 20000 := by
      have hx := lws_le.2 xs most (lcap t most) h0 hc.1 hc.2
      have h9 : lcap t most ≤ most := by omega
      simp only [lcap] at h9
      split at h9 <;> omega
    refine ⟨.mk o t k xs ht (by omega) g2, ?_⟩
    simp only [lcnt, lw]
    omega

theorem LicWeight_spec (e : Li) : FitsL e → ∀ most : Int, 0 ≤ most → most ≤ 4611686018427387904 → pureF Try.prog 8 [.p (encL e), .p (.int .i64 most)] (.p (.int .i64 (lw e most))) := by
  induction e using Li.ind with
  | h o t k xs ih =>
    intro hf most h1 h2
    cases hf with
    | mk _ _ _ _ ho hk1 hk2 ht hx hxs =>
    have he := encLs_len xs
    have hc : 1 ≤ lcap t most ∧ lcap t most ≤ most + 1 := by simp only [lcap]; split <;> omega
    refine pureF_of f8_ok fun H => ?_
    (conv => whnf)
    rw [IntWalk.i64_in _ (by have := hc; simp only [lcap] at this; exact ⟨by omega, by omega⟩)]
    intro R hR
    have key : ∀ (rest : List Li) (i : Nat) (n : Int), xs.drop i = rest → 1 ≤ n → n ≤ most + 1 → lws rest most n = lw (.mk o t k xs) most → R [(1, .p (.int .i64 most)), (2, .ref (.l 0) 0), (5, .p (.int .i64 n)), (6, .p (.int .i64 i))] H [.cells [.p (.int .u8 o), .p (.str t), .p (.int .i64 k), .p (.list 4 (encLs xs))]] := by
      intro rest
      induction rest with
      | nil =>
        intro i n hd hn hb hs
        have hl := drop_nil hd
        refine hR _ _ _ ?_
        (conv => whnf)
        refine splitB_f (decide_eq_false (by omega)) ?_
        (conv => whnf)
        refine splitB_f rfl ?_
        exact ⟨by rw [← hs]; rfl, rfl⟩
      | cons a r ihr =>
        intro i n hd hn hb hs
        obtain ⟨hg, hd', hi⟩ := drop_cons hd
        have iha := ih a (List.mem_of_getElem? hg) (hxs a (List.mem_of_getElem? hg))
        have hle := lws_le.1 a (most - n)
        refine hR _ _ _ ?_
        (conv => whnf)
        refine splitB_t (decide_eq_true (by omega)) ?_
        (conv => whnf)
        refine splitB_dec (fun h3 => ?_) (fun h3 => ?_)
        · obtain ⟨o', t', k', xs'⟩ := a
          have hle := hle (by omega)
          (conv => whnf)
          refine ⟨rfl, encL (.mk o' t' k' xs'), ⟨by omega, encLs_get hg⟩, ?_⟩
          (conv => whnf)
          rw [IntWalk.i64_in (most - n) (by omega)]
          refine CallVC.pureF (iha (most - n) (by omega) (by omega)) rfl ?_
          (conv => whnf)
          rw [IntWalk.i64_in _ (by omega), IntWalk.i64_in _ (by omega)]
          exact ihr (i + 1) _ hd' (by omega) (by omega) (by rw [← hs]; simp only [lws, if_pos h3])
        · exact ⟨by rw [← hs]; simp only [lws, if_neg h3], rfl⟩
    exact key xs 0 (lcap t most) rfl hc.1 hc.2 rfl

end Go.Proofs.Ythmlninecfjjgaa.AD
