/- Chapter 20: a tree lent, with a mark behind each row; and still as it was. -/
import Derived.Test.YtaanmljlbhkonaaT1
namespace Go.Proofs.Ytaanmljlbhkonaa.AD
open Go.Proofs
set_option linter.unusedVariables false
set_option linter.unusedSimpArgs false
set_option maxRecDepth 100000

def markE : PV := .agg [.int .u8 77, .str ⟨#[]⟩, .nils]
mutual
def encT : Ex → PV
  | .mk o t xs => .agg [.int .u8 o, .str t, .lent 3 (encTs xs) [markE]]
def encTs : List Ex → List PV
  | [] => []
  | a :: r => encT a :: encTs r
end
theorem encTs_map : ∀ l, encTs l = l.map encT
  | [] => rfl
  | a :: r => by rw [encTs, encTs_map r]; rfl
theorem encTs_len (xs : List Ex) : (encTs xs).length = xs.length := by rw [encTs_map, List.length_map]

/-- No row is long. -/
inductive Few : Ex → Prop
  | mk (o : Int) (t : ByteArray) (xs : List Ex) : xs.length ≤ 20000 → (∀ a, a ∈ xs → Few a) → Few (.mk o t xs)

theorem encT_le (e : Ex) : (encT e).le (enc e) := by
  induction e using Ex.ind with
  | h o t xs ih =>
    have main : ∀ l : List Ex, (∀ a, a ∈ l → (encT a).le (enc a)) → PV.les (encTs l) (encs l) := by
      intro l
      induction l with
      | nil => intro _; exact .nil
      | cons a r ihr => intro h; exact .cons _ _ _ _ (h a (by simp)) (ihr fun b hb => h b (by simp [hb]))
    exact .agg (.cons _ _ _ _ (.refl _) (.cons _ _ _ _ (.refl _) (.cons _ _ _ _ (.lent (main xs ih)) .nil)))

theorem encTs_take {xs : List Ex} {k : Nat} {a : Ex} (h : xs[k]? = some a) : encTs (xs.take (k + 1)) = encTs (xs.take k) ++ [encT a] := by
  rw [encTs_map, encTs_map, ← List.take_append_getElem (get_lt h), List.map_append]
  simp [(List.getElem?_eq_some_iff.1 h).2]
theorem encTs_cut (xs : List Ex) (k : Nat) : (encTs (xs.take k)).take k = encTs (xs.take k) := by
  apply List.take_of_length_le
  rw [encTs_len, List.length_take]
  omega

theorem LentExpr_spec (e : Ex) : Few e → pureF Try.prog 10 [.p (enc e)] (.p (encT e)) := by
  induction e using Ex.ind with
  | h o t xs ih =>
    intro hfew
    cases hfew with
    | mk _ _ _ hx hxs =>
    have he := encs_len xs
    refine pureF_of f10_ok fun H => ?_
    (conv => whnf)
    intro R hR
    have key : ∀ (rest : List Ex) (k : Nat), xs.drop (k + 1) = rest → k < xs.length → R [(1, .ref (.l 0) 0), (2, .ref (.l 1) 0), (3, .ref (.l 2) 0), (4, .p (.int .i64 (k + 1 : Nat)))] H
        [.cells [.p (.int .u8 o), .p (.str t), .p (.list 3 (encs xs))], .cells [.p (.int .u8 0), .p (.str ⟨#[]⟩), .p .nils], .cells [.p (.int .u8 o), .p (.str t), .view (.l 3) k 3 (k + 1)], .buf k 3 (encTs (xs.take (k + 1)))] := by
      intro rest
      induction rest with
      | nil =>
        intro k hd hk
        have hl := drop_nil hd
        have hk1 : k + 1 = xs.length := by omega
        refine hR _ _ _ ?_
        (conv => whnf)
        refine splitB_f (decide_eq_false (by omega)) ?_
        (conv => whnf)
        refine ⟨rfl, ?_⟩
        (conv => whnf)
        refine ⟨⟨rfl, rfl, rfl, by rw [encTs_len, List.length_take]; omega⟩, by simp [room]; omega, encTs xs ++ [markE], by rw [encTs_cut, hk1, List.take_length]; rfl, ?_⟩
        (conv => whnf)
        refine ⟨rfl, ?_⟩
        (conv => whnf)
        refine ⟨⟨by omega, by rw [he]; simp; omega⟩, ?_⟩
        (conv => whnf)
        refine ⟨⟨rfl, rfl⟩, .inr ⟨encTs xs, [markE], ⟨by omega, by simp⟩, rfl, by rw [encTs_len]; simp [he], ?_⟩⟩
        exact ⟨rfl, rfl⟩
      | cons a r ihr =>
        intro k hd hk
        obtain ⟨hg, hd', hi⟩ := drop_cons hd
        have iha := ih a (List.mem_of_getElem? hg) (hxs a (List.mem_of_getElem? hg))
        refine hR _ _ _ ?_
        (conv => whnf)
        refine splitB_t (decide_eq_true (by omega)) ?_
        (conv => whnf)
        obtain ⟨o', t', xs'⟩ := a
        refine ⟨rfl, enc (.mk o' t' xs'), ⟨by omega, encs_get hg⟩, ?_⟩
        (conv => whnf)
        refine CallD.pureF iha rfl ?_
        (conv => whnf)
        refine ⟨rfl, ?_⟩
        (conv => whnf)
        refine ⟨⟨rfl, rfl, rfl, by rw [encTs_len, List.length_take]; omega⟩, by simp [room]; omega, encTs (xs.take (k + 1 + 1)), by rw [encTs_cut, encTs_take hg], ?_⟩
        (conv => whnf)
        rw [IntWalk.i64_in _ (by omega)]
        exact ihr (k + 1) hd' hi
    cases xs with
    | nil =>
      refine hR _ _ _ ?_
      (conv => whnf)
      refine splitB_f rfl ?_
      (conv => whnf)
      refine ⟨rfl, ?_⟩
      (conv => whnf)
      refine ⟨by simp [room], ?_⟩
      (conv => whnf)
      refine ⟨rfl, ?_⟩
      (conv => whnf)
      refine ⟨⟨by omega, by decide⟩, ?_⟩
      (conv => whnf)
      refine ⟨⟨rfl, rfl⟩, .inr ⟨[], [markE], ⟨by omega, by decide⟩, rfl, rfl, ?_⟩⟩
      exact ⟨rfl, rfl⟩
    | cons a r =>
      have iha := ih a (by simp) (hxs a (by simp))
      refine hR _ _ _ ?_
      (conv => whnf)
      refine splitB_t (decide_eq_true (by rw [he]; simp)) ?_
      (conv => whnf)
      obtain ⟨o', t', xs'⟩ := a
      refine ⟨rfl, enc (.mk o' t' xs'), ⟨by omega, rfl⟩, ?_⟩
      (conv => whnf)
      refine CallD.pureF iha rfl ?_
      (conv => whnf)
      refine ⟨rfl, ?_⟩
      (conv => whnf)
      refine ⟨by simp [room], ?_⟩
      (conv => whnf)
      exact key r 0 rfl (by simp)

theorem encTs_get {xs : List Ex} {i : Nat} {a : Ex} (h : xs[i]? = some a) : (encTs xs)[i]? = some (encT a) := by rw [encTs_map, List.getElem?_map, h]; rfl

theorem KeptExpr_spec (e : Ex) : Few e → pureF Try.prog 13 [.p (encT e), .p (enc e)] (.p (.bool true)) := by
  induction e using Ex.ind with
  | h o t xs ih =>
    intro hfew
    cases hfew with
    | mk _ _ _ hx hxs =>
    have he := encs_len xs
    have heT := encTs_len xs
    refine pureF_of f13_ok fun H => ?_
    (conv => whnf)
    refine splitB_f (by simp) ?_
    (conv => whnf)
    refine splitB_f (by simp) ?_
    (conv => whnf)
    refine splitB_f (by rw [he, heT]; simp) ?_
    (conv => whnf)
    rw [IntWalk.i64_in _ (by omega)]
    refine ⟨rfl, ⟨by omega, by rw [List.length_append, heT, he]; simp⟩, ?_⟩
    (conv => whnf)
    refine ⟨rfl, markE, ⟨by omega, ?_⟩, ?_⟩
    · rw [List.take_of_length_le (by rw [List.length_append, heT, he]; simp)]
      rw [List.getElem?_append_right (by rw [heT, he]; simp)]
      simp [heT, he]
    (conv => whnf)
    refine splitB_f rfl ?_
    (conv => whnf)
    intro R hR
    have key : ∀ (rest : List Ex) (i : Nat), xs.drop i = rest → R [(2, .ref (.l 0) 0), (3, .ref (.l 1) 0), (5, .p (.int .i64 (encs xs).length)), (6, .p (.int .i64 i))] H
        [.cells [.p (.int .u8 o), .p (.str t), .p (.lent 3 (encTs xs) [markE])], .cells [.p (.int .u8 o), .p (.str t), .p (.list 3 (encs xs))]] := by
      intro rest
      induction rest with
      | nil =>
        intro i hd
        have hl := drop_nil hd
        refine hR _ _ _ ?_
        (conv => whnf)
        refine splitB_f (decide_eq_false (by omega)) ?_
        exact ⟨rfl, rfl⟩
      | cons a r ihr =>
        intro i hd
        obtain ⟨hg, hd', hi⟩ := drop_cons hd
        have iha := ih a (List.mem_of_getElem? hg) (hxs a (List.mem_of_getElem? hg))
        refine hR _ _ _ ?_
        (conv => whnf)
        refine splitB_t (decide_eq_true (by omega)) ?_
        (conv => whnf)
        obtain ⟨o', t', xs'⟩ := a
        refine ⟨rfl, encT (.mk o' t' xs'), ⟨by omega, encTs_get hg⟩, ?_⟩
        (conv => whnf)
        refine ⟨rfl, enc (.mk o' t' xs'), ⟨by omega, encs_get hg⟩, ?_⟩
        (conv => whnf)
        refine CallD.pureF iha rfl ?_
        (conv => whnf)
        refine splitB_f rfl ?_
        (conv => whnf)
        rw [IntWalk.i64_in _ (by omega)]
        exact ihr (i + 1) hd'
    exact key xs 0 rfl

/-- A tree that is not large has short rows. -/
theorem few_of (e : Ex) : ∀ m : Int, m ≤ 20000 → size e m ≤ m → Few e := by
  induction e using Ex.ind with
  | h o t xs ih =>
    intro m hm h
    have main : ∀ (l : List Ex) (n : Int), (∀ a, a ∈ l → a ∈ xs) → 1 ≤ n → sizes l m n ≤ m → n + l.length ≤ m ∧ ∀ a, a ∈ l → Few a := by
      intro l
      induction l with
      | nil => intro n _ _ h; simp only [sizes] at h; exact ⟨by simpa using h, fun a ha => by cases ha⟩
      | cons a r ihr =>
        intro n hl hn h
        simp only [sizes] at h
        split at h
        · rename_i h2
          have h3 := sizes_le.1 a (m - n)
          have h4 := sizes_le.2 r m (n + size a (m - n)) (by omega)
          have h5 : size a (m - n) ≤ m - n := by omega
          obtain ⟨h6, h7⟩ := ihr _ (fun b hb => hl b (by simp [hb])) (by omega) h
          refine ⟨by simp; omega, fun b hb => ?_⟩
          cases hb with
          | head => exact ih a (hl a (by simp)) (m - n) (by omega) h5
          | tail _ hb => exact h7 b hb
        · omega
    obtain ⟨h1, h2⟩ := main xs 1 (fun _ h => h) (by omega) h
    exact .mk o t xs (by omega) h2

end Go.Proofs.Ytaanmljlbhkonaa.AD
