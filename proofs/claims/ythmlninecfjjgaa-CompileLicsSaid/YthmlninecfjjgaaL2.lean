/- Chapter 22: licensees lent, and still as they were; may they be. -/
import Derived.Test.YthmlninecfjjgaaL1
namespace Go.Proofs.Ythmlninecfjjgaa.AD
open Go.Proofs
set_option linter.unusedVariables false
set_option linter.unusedSimpArgs false
set_option maxRecDepth 100000

def markL : PV := .agg [.int .u8 77, .str ⟨#[]⟩, .int .i64 0, .nils]
mutual
def encTL : Li → PV
  | .mk o t k xs => .agg [.int .u8 o, .str t, .int .i64 k, .lent 4 (encTLs xs) [markL]]
def encTLs : List Li → List PV
  | [] => []
  | a :: r => encTL a :: encTLs r
end
theorem encTLs_map : ∀ l, encTLs l = l.map encTL
  | [] => rfl
  | a :: r => by rw [encTLs, encTLs_map r]; rfl
theorem encTLs_len (xs : List Li) : (encTLs xs).length = xs.length := by rw [encTLs_map, List.length_map]
theorem encTLs_get {xs : List Li} {i : Nat} {a : Li} (h : xs[i]? = some a) : (encTLs xs)[i]? = some (encTL a) := by rw [encTLs_map, List.getElem?_map, h]; rfl
theorem encTLs_take {xs : List Li} {k : Nat} {a : Li} (h : xs[k]? = some a) : encTLs (xs.take (k + 1)) = encTLs (xs.take k) ++ [encTL a] := by
  rw [encTLs_map, encTLs_map, ← List.take_append_getElem (get_lt h), List.map_append]
  simp [(List.getElem?_eq_some_iff.1 h).2]
theorem encTLs_cut (xs : List Li) (k : Nat) : (encTLs (xs.take k)).take k = encTLs (xs.take k) := by
  apply List.take_of_length_le
  rw [encTLs_len, List.length_take]
  omega
theorem encTL_le (e : Li) : (encTL e).le (encL e) := by
  induction e using Li.ind with
  | h o t k xs ih =>
    have main : ∀ l : List Li, (∀ a, a ∈ l → (encTL a).le (encL a)) → PV.les (encTLs l) (encLs l) := by
      intro l
      induction l with
      | nil => intro _; exact .nil
      | cons a r ihr => intro h; exact .cons _ _ _ _ (h a (by simp)) (ihr fun b hb => h b (by simp [hb]))
    exact .agg (.cons _ _ _ _ (.refl _) (.cons _ _ _ _ (.refl _) (.cons _ _ _ _ (.refl _) (.cons _ _ _ _ (.lent (main xs ih)) .nil))))

theorem LentLic_spec (e : Li) : FewL e → pureF Try.prog 10 [.p (encL e)] (.p (encTL e)) := by
  induction e using Li.ind with
  | h o t kk xs ih =>
    intro hfew
    cases hfew with
    | mk _ _ _ _ ht hx hxs =>
    have he := encLs_len xs
    refine pureF_of f10_ok fun H => ?_
    (conv => whnf)
    intro R hR
    have key : ∀ (rest : List Li) (k : Nat), xs.drop (k + 1) = rest → k < xs.length → R [(1, .ref (.l 0) 0), (2, .ref (.l 1) 0), (3, .ref (.l 2) 0), (4, .p (.int .i64 (k + 1 : Nat)))] H
        [.cells [.p (.int .u8 o), .p (.str t), .p (.int .i64 kk), .p (.list 4 (encLs xs))], .cells [.p (.int .u8 0), .p (.str ⟨#[]⟩), .p (.int .i64 0), .p .nils], .cells [.p (.int .u8 o), .p (.str t), .p (.int .i64 kk), .view (.l 3) k 4 (k + 1)], .buf k 4 (encTLs (xs.take (k + 1)))] := by
      intro rest
      induction rest with
      | nil =>
        intro k hd hk
        have hl := drop_nil hd
        have hk1 : k + 1 = xs.length := by omega
        refine hR _ _ _ ?_
        (conv => whnf)
        refine splitB_f (decide_eq_false (by omega)) ?_
        (conv => whnf)
        refine ⟨rfl, ?_⟩
        (conv => whnf)
        refine ⟨⟨rfl, rfl, rfl, by rw [encTLs_len, List.length_take]; omega⟩, by simp [room]; omega, encTLs xs ++ [markL], by rw [encTLs_cut, hk1, List.take_length]; rfl, ?_⟩
        (conv => whnf)
        refine ⟨rfl, ?_⟩
        (conv => whnf)
        refine ⟨⟨by omega, by rw [he]; simp; omega⟩, ?_⟩
        (conv => whnf)
        refine ⟨⟨rfl, rfl⟩, .inr ⟨encTLs xs, [markL], ⟨by omega, by simp⟩, rfl, by rw [encTLs_len]; simp [he], ?_⟩⟩
        exact ⟨rfl, rfl⟩
      | cons a r ihr =>
        intro k hd hk
        obtain ⟨hg, hd', hi⟩ := drop_cons hd
        have iha := ih a (List.mem_of_getElem? hg) (hxs a (List.mem_of_getElem? hg))
        refine hR _ _ _ ?_
        (conv => whnf)
        refine splitB_t (decide_eq_true (by omega)) ?_
        (conv => whnf)
        obtain ⟨o', t', k', xs'⟩ := a
        refine ⟨rfl, encL (.mk o' t' k' xs'), ⟨by omega, encLs_get hg⟩, ?_⟩
        (conv => whnf)
        refine CallD.pureF iha rfl ?_
        (conv => whnf)
        refine ⟨rfl, ?_⟩
        (conv => whnf)
        refine ⟨⟨rfl, rfl, rfl, by rw [encTLs_len, List.length_take]; omega⟩, by simp [room]; omega, encTLs (xs.take (k + 1 + 1)), by rw [encTLs_cut, encTLs_take hg], ?_⟩
        (conv => whnf)
        rw [IntWalk.i64_in _ (by omega)]
        exact ihr (k + 1) hd' hi
    cases xs with
    | nil =>
      refine hR _ _ _ ?_
      (conv => whnf)
      refine splitB_f rfl ?_
      (conv => whnf)
      refine ⟨rfl, ?_⟩
      (conv => whnf)
      refine ⟨by simp [room], ?_⟩
      (conv => whnf)
      refine ⟨rfl, ?_⟩
      (conv => whnf)
      refine ⟨⟨by omega, by decide⟩, ?_⟩
      (conv => whnf)
      refine ⟨⟨rfl, rfl⟩, .inr ⟨[], [markL], ⟨by omega, by decide⟩, rfl, rfl, ?_⟩⟩
      exact ⟨rfl, rfl⟩
    | cons a r =>
      have iha := ih a (by simp) (hxs a (by simp))
      refine hR _ _ _ ?_
      (conv => whnf)
      refine splitB_t (decide_eq_true (by rw [he]; simp)) ?_
      (conv => whnf)
      obtain ⟨o', t', k', xs'⟩ := a
      refine ⟨rfl, encL (.mk o' t' k' xs'), ⟨by omega, rfl⟩, ?_⟩
      (conv => whnf)
      refine CallD.pureF iha rfl ?_
      (conv => whnf)
      refine ⟨rfl, ?_⟩
      (conv => whnf)
      refine ⟨by simp [room], ?_⟩
      (conv => whnf)
      exact key r 0 rfl (by simp)

theorem KeptLic_spec (e : Li) : FewL e → pureF Try.prog 15 [.p (encTL e), .p (encL e)] (.p (.bool true)) := by
  induction e using Li.ind with
  | h o t kk xs ih =>
    intro hfew
    cases hfew with
    | mk _ _ _ _ ht hx hxs =>
    have he := encLs_len xs
    have heT := encTLs_len xs
    refine pureF_of f15_ok fun H => ?_
    (conv => whnf)
    refine splitB_f (by simp) ?_
    (conv => whnf)
    refine splitB_f (by simp) ?_
    (conv => whnf)
    refine splitB_f (by simp) ?_
    (conv => whnf)
    refine splitB_f (by rw [he, heT]; simp) ?_
    (conv => whnf)
    rw [IntWalk.i64_in _ (by omega)]
    refine ⟨rfl, ⟨by omega, by rw [List.length_append, heT, he]; simp⟩, ?_⟩
    (conv => whnf)
    refine ⟨rfl, markL, ⟨by omega, ?_⟩, ?_⟩
    · rw [List.take_of_length_le (by rw [List.length_append, heT, he]; simp)]
      rw [List.getElem?_append_right (by rw [heT, he]; simp)]
      simp [heT, he]
    (conv => whnf)
    refine splitB_f rfl ?_
    (conv => whnf)
    intro R hR
    have key : ∀ (rest : List Li) (i : Nat), xs.drop i = rest → R [(2, .ref (.l 0) 0), (3, .ref (.l 1) 0), (5, .p (.int .i64 (encLs xs).length)), (6, .p (.int .i64 i))] H
        [.cells [.p (.int .u8 o), .p (.str t), .p (.int .i64 kk), .p (.lent 4 (encTLs xs) [markL])], .cells [.p (.int .u8 o), .p (.str t), .p (.int .i64 kk), .p (.list 4 (encLs xs))]] := by
      intro rest
      induction rest with
      | nil =>
        intro i hd
        have hl := drop_nil hd
        refine hR _ _ _ ?_
        (conv => whnf)
        refine splitB_f (decide_eq_false (by omega)) ?_
        exact ⟨rfl, rfl⟩
      | cons a r ihr =>
        intro i hd
        obtain ⟨hg, hd', hi⟩ := drop_cons hd
        have iha := ih a (List.mem_of_getElem? hg) (hxs a (List.mem_of_getElem? hg))
        refine hR _ _ _ ?_
        (conv => whnf)
        refine splitB_t (decide_eq_true (by omega)) ?_
        (conv => whnf)
        obtain ⟨o', t', k', xs'⟩ := a
        refine ⟨rfl, encTL (.mk o' t' k' xs'), ⟨by omega, encTLs_get hg⟩, ?_⟩
        (conv => whnf)
        refine ⟨rfl, encL (.mk o' t' k' xs'), ⟨by omega, encLs_get hg⟩, ?_⟩
        (conv => whnf)
        refine CallD.pureF iha rfl ?_
        (conv => whnf)
        refine splitB_f rfl ?_
        (conv => whnf)
        rw [IntWalk.i64_in _ (by omega)]
        exact ihr (i + 1) hd'
    exact key xs 0 rfl

/-! ### may they be -/
mutual
def chkLi : Li → Bool
  | .mk o t k xs => if o = 1 then decide (k = 0) && decide (xs.length = 0) else ((if o = 2 ∨ o = 3 then decide (k = 0) && decide (xs.length = 2) else if o = 4 then decide (1 ≤ k) && decide (k ≤ xs.length) else false) && (t.toList == (⟨#[]⟩ : ByteArray).toList)) && chkLs xs
def chkLs : List Li → Bool
  | [] => true
  | a :: r => chkLi a && chkLs r
end
theorem chkLs_all : ∀ l, chkLs l = l.all chkLi
  | [] => rfl
  | a :: r => by rw [chkLs, chkLs_all r]; rfl
def errT (b : Bool) : Int := if b then 0 else 151

def idxF {α : Type} (p : α → Bool) : List α → Int
  | [] => -1
  | a :: r => if p a then 0 else if idxF p r = -1 then -1 else idxF p r + 1
theorem idxF_ge {α : Type} (p : α → Bool) : ∀ xs : List α, -1 ≤ idxF p xs
  | [] => by simp [idxF]
  | a :: r => by have := idxF_ge p r; simp only [idxF]; (repeat' split) <;> omega
theorem idxF_any {α : Type} (p : α → Bool) : ∀ xs : List α, decide (idxF p xs ≥ 0) = xs.any p
  | [] => by simp [idxF]
  | a :: r => by
    have h1 := idxF_any p r
    have h2 := idxF_ge p r
    rw [List.any_cons, ← h1]
    simp only [idxF]
    by_cases hp : p a = true
    · simp [hp]
    · have hp : p a = false := by simpa using hp
      simp only [hp, Bool.false_or, Bool.false_eq_true, if_false]
      by_cases h3 : idxF p r = -1
      · rw [if_pos h3, h3]
      · rw [if_neg h3, decide_eq_decide]; omega

theorem IndexFuncL_spec (xs : List Li) (hx : (xs.length : Int) ≤ 9223372036854775807) (p : Li → Bool) (f : Nat) (hf : enters Try.prog f = true) (hp : ∀ a, a ∈ xs → pureF Try.prog f [.p (encL a)] (.p (.bool (p a)))) :
    pureF Try.prog 62 [.p (.list 4 (encLs xs)), .p (.fn (.func f))] (.p (.int .i64 (idxF p xs))) := by
  refine pureF_of f62_ok fun H => ?_
  (conv => whnf)
  intro R hR
  have he := encLs_len xs
  have key : ∀ (rest : List Li) (i : Nat), xs.drop i = rest → idxF p xs = (if idxF p rest = -1 then -1 else idxF p rest + i) → R [(0, .p (.list 4 (encLs xs))), (1, .p (.fn (.func f))), (7, .p (.int .i64 (encLs xs).length)), (8, .p (.int .i64 i))] H [] := by
    intro rest
    induction rest with
    | nil =>
      intro i hd hq
      have hl := drop_nil hd
      refine hR _ _ _ ?_
      (conv => whnf)
      refine splitB_f (decide_eq_false (by omega)) ?_
      exact ⟨by rw [hq]; rfl, rfl⟩
    | cons a r ih =>
      intro i hd hq
      obtain ⟨hg, hd', hi⟩ := drop_cons hd
      have hpa := hp a (List.mem_of_getElem? hg)
      refine hR _ _ _ ?_
      (conv => whnf)
      refine splitB_t (decide_eq_true (by omega)) ?_
      (conv => whnf)
      obtain ⟨o', t', k', xs'⟩ := a
      refine ⟨rfl, encL (.mk o' t' k' xs'), ⟨by omega, encLs_get hg⟩, ?_⟩
      (conv => whnf)
      refine ⟨hf, ?_⟩
      refine CallVC.pureF hpa rfl ?_
      (conv => whnf)
      refine splitB_intro (fun h => ?_) (fun h => ?_)
      · exact ⟨by rw [hq]; simp [idxF, h], rfl⟩
      · (conv => whnf)
        rw [IntWalk.i64_in _ (by omega)]
        refine ih (i + 1) hd' ?_
        rw [hq]
        simp only [idxF, h, Bool.false_eq_true, if_false]
        have := idxF_ge p r
        by_cases h3 : idxF p r = -1
        · rw [if_pos h3, if_pos rfl, if_pos h3]
        · rw [if_neg h3, if_neg (by omega), if_neg h3]; push_cast; omega
  refine key xs 0 rfl ?_
  by_cases h3 : idxF p xs = -1
  · rw [if_pos h3]; exact h3
  · rw [if_neg h3]; simp

theorem ContainsFuncL_spec (xs : List Li) (hx : (xs.length : Int) ≤ 9223372036854775807) (p : Li → Bool) (f : Nat) (hf : enters Try.prog f = true) (hp : ∀ a, a ∈ xs → pureF Try.prog f [.p (encL a)] (.p (.bool (p a)))) :
    pureF Try.prog 43 [.p (.list 4 (encLs xs)), .p (.fn (.func f))] (.p (.bool (xs.any p))) := by
  refine pureF_of f43_ok fun H => ?_
  (conv => whnf)
  refine CallVC.pureF (IndexFuncL_spec xs hx p f hf hp) rfl ?_
  exact ⟨by rw [← idxF_any], rfl⟩

theorem licsCheck_spec (e : Li) : FitsL e → pureF Try.prog 24 [.p (encL e)] (.p (.int .i64 (errT (chkLi e)))) := by
  induction e using Li.ind with
  | h o t k xs ih =>
    intro hfit
    cases hfit with
    | mk _ _ _ _ ho hk1 hk2 ht hx hxs =>
    have he := encLs_len xs
    have hany : pureF Try.prog 43 [.p (.list 4 (encLs xs)), .p (.fn (.func 44))] (.p (.bool (xs.any fun a => !chkLi a))) :=
      ContainsFuncL_spec xs hx (fun a => !chkLi a) 44 (by kernel_rfl) fun a ha => by
        have h := ih a ha (hxs a ha)
        refine pureF_of f44_ok fun H => ?_
        obtain ⟨o', t', k', xs'⟩ := a
        (conv => whnf)
        refine CallVC.pureF h rfl ?_
        refine ⟨?_, rfl⟩
        cases chkLi (.mk o' t' k' xs') <;> rfl
    have hall : (xs.any fun a => !chkLi a) = !chkLs xs := by rw [chkLs_all, List.not_all_eq_any_not]
    rw [hall] at hany
    have hdef : chkLi (.mk o t k xs) = (if o = 1 then decide (k = 0) && decide (xs.length = 0) else ((if o = 2 ∨ o = 3 then decide (k = 0) && decide (xs.length = 2) else if o = 4 then decide (1 ≤ k) && decide (k ≤ xs.length) else false) && (t.toList == (⟨#[]⟩ : ByteArray).toList)) && chkLs xs) := rfl
    have bad : chkLi (.mk o t k xs) = false → errT (chkLi (.mk o t k xs)) = 151 := fun h => by rw [h]; rfl
    have good : chkLi (.mk o t k xs) = true → errT (chkLi (.mk o t k xs)) = 0 := fun h => by rw [h]; rfl
    refine pureF_of f24_ok fun H => ?_
    rcases (show o = 1 ∨ o = 2 ∨ o = 3 ∨ o = 4 ∨ (o ≠ 1 ∧ o ≠ 2 ∧ o ≠ 3 ∧ o ≠ 4) by omega) with rfl | rfl | rfl | rfl | ⟨n1, n2, n3, n4⟩
    all_goals repeat' ((conv => whnf); first | refine CallVC.pureF hany rfl ?_ | refine splitB_t rfl ?_ | refine splitB_f rfl ?_ | refine splitB_f (beq_eq_false_iff_ne.2 n1) ?_ | refine splitB_f (beq_eq_false_iff_ne.2 n2) ?_ | refine splitB_f (beq_eq_false_iff_ne.2 n3) ?_ | refine splitB_f (beq_eq_false_iff_ne.2 n4) ?_ | (first | refine splitB_t rfl ?_ | refine splitB_f rfl ?_ | refine splitB_dec (fun h => ?_) (fun h => ?_) | refine splitB_eq (fun h => ?_) (fun h => ?_) | refine splitB_ne (fun h => ?_) (fun h => ?_) | refine splitB_intro (fun h => ?_) (fun h => ?_)))
    all_goals (try (conv => whnf))
    all_goals clear ih hxs
    all_goals first
      | exact ⟨congrArg (fun n => AV.p (PV.int .i64 n)) (bad (by rw [hdef]; simp_all <;> (intros; omega))).symm, rfl⟩
      | exact ⟨congrArg (fun n => AV.p (PV.int .i64 n)) (good (by rw [hdef]; simp_all <;> (intros; omega))).symm, rfl⟩

theorem refLicCheck_spec (e : Li) : FitsL e → pureF Try.prog 26 [.p (encL e)] (.p (.int .i64 (errT (chkLi e)))) := by
  induction e using Li.ind with
  | h o t k xs ih =>
    intro hfit
    cases hfit with
    | mk _ _ _ _ ho hk1 hk2 ht hx hxs =>
    have he := encLs_len xs
    have hdef : chkLi (.mk o t k xs) = (if o = 1 then decide (k = 0) && decide (xs.length = 0) else ((if o = 2 ∨ o = 3 then decide (k = 0) && decide (xs.length = 2) else if o = 4 then decide (1 ≤ k) && decide (k ≤ xs.length) else false) && (t.toList == (⟨#[]⟩ : ByteArray).toList)) && chkLs xs) := rfl
    have bad : chkLi (.mk o t k xs) = false → errT (chkLi (.mk o t k xs)) = 151 := fun h => by rw [h]; rfl
    have good : chkLi (.mk o t k xs) = true → errT (chkLi (.mk o t k xs)) = 0 := fun h => by rw [h]; rfl
    refine pureF_of f26_ok fun H => ?_
    have last : ∀ b : Bool, (chkLi (.mk o t k xs) = (b && chkLs xs)) → W Try.prog f26.c36 [(1, .ref (.l 0) 0), (3, .p (.bool b)), (4, .p (.int .i64 (encLs xs).length))] H [.cells [.p (.int .u8 o), .p (.str t), .p (.int .i64 k), .p (.list 4 (encLs xs))]] (endQ f26 fun r' H' => r' = .p (.int .i64 (errT (chkLi (.mk o t k xs)))) ∧ H' = H) := by
      intro b hb
      cases b with
      | false =>
        (conv => whnf)
        refine splitB_t rfl ?_
        exact ⟨by rw [hb]; rfl, rfl⟩
      | true =>
        rw [Bool.true_and] at hb
        (conv => whnf)
        refine splitB_f rfl ?_
        (conv => whnf)
        intro R hR
        have key : ∀ (rest : List Li) (i : Nat), xs.drop i = rest → chkLs xs = chkLs rest → R [(1, .ref (.l 0) 0), (4, .p (.int .i64 (encLs xs).length)), (5, .p (.int .i64 i))] H [.cells [.p (.int .u8 o), .p (.str t), .p (.int .i64 k), .p (.list 4 (encLs xs))]] := by
          intro rest
          induction rest with
          | nil =>
            intro i hd hq
            have hl := drop_nil hd
            refine hR _ _ _ ?_
            (conv => whnf)
            refine splitB_f (decide_eq_false (by omega)) ?_
            exact ⟨by rw [hb, hq]; rfl, rfl⟩
          | cons a r ihr =>
            intro i hd hq
            obtain ⟨hg, hd', hi⟩ := drop_cons hd
            have iha := ih a (List.mem_of_getElem? hg) (hxs a (List.mem_of_getElem? hg))
            rw [chkLs] at hq
            refine hR _ _ _ ?_
            (conv => whnf)
            refine splitB_t (decide_eq_true (by omega)) ?_
            (conv => whnf)
            obtain ⟨o', t', k', xs'⟩ := a
            refine ⟨rfl, encL (.mk o' t' k' xs'), ⟨by omega, encLs_get hg⟩, ?_⟩
            (conv => whnf)
            refine CallVC.pureF iha rfl ?_
            cases hc : chkLi (.mk o' t' k' xs') with
            | false =>
              (conv => whnf)
              refine splitB_t rfl ?_
              exact ⟨by rw [hb, hq, hc]; rfl, rfl⟩
            | true =>
              (conv => whnf)
              refine splitB_f rfl ?_
              (conv => whnf)
              rw [IntWalk.i64_in _ (by omega)]
              exact ihr (i + 1) hd' (by rw [hq, hc]; rfl)
        exact key xs 0 rfl rfl
    have hb0 : (((encLs xs).length : Int) == 0) = decide (xs.length = 0) := by rw [he, Bool.eq_iff_iff]; simp
    have hb2 : (((encLs xs).length : Int) == 2) = decide (xs.length = 2) := by rw [he, Bool.eq_iff_iff]; simp; omega
    have lnil : xs.length = 0 → chkLs xs = true := fun h => by rw [List.length_eq_zero_iff.1 h]; rfl
    rcases (show o = 1 ∨ o = 2 ∨ o = 3 ∨ o = 4 ∨ (o ≠ 1 ∧ o ≠ 2 ∧ o ≠ 3 ∧ o ≠ 4) by omega) with rfl | rfl | rfl | rfl | ⟨n1, n2, n3, n4⟩
    all_goals repeat' ((conv => whnf); first | refine splitB_t rfl ?_ | refine splitB_f rfl ?_ | refine splitB_f (beq_eq_false_iff_ne.2 n1) ?_ | refine splitB_f (beq_eq_false_iff_ne.2 n2) ?_ | refine splitB_f (beq_eq_false_iff_ne.2 n3) ?_ | refine splitB_f (beq_eq_false_iff_ne.2 n4) ?_ | refine splitB_eq (fun h => ?_) (fun h => ?_) | refine splitB_dec (fun h => ?_) (fun h => ?_))
    all_goals (try (conv => whnf))
    all_goals first
      | exact ⟨congrArg (fun n => AV.p (PV.int .i64 n)) (bad (by rw [hdef]; clear ih hxs last; simp_all <;> (intros; omega))).symm, rfl⟩
      | (have q := last (((encLs xs).length : Int) == 0) (by rw [hdef, hb0]; clear ih hxs last; cases xs <;> simp_all [chkLs]); (conv at q => whnf); exact q)
      | (have q := last (((encLs xs).length : Int) == 2) (by rw [hdef, hb2]; clear ih hxs last; simp_all); (conv at q => whnf); exact q)
      | (have q := last (decide (k ≤ ((encLs xs).length : Int))) (by rw [hdef]; clear ih hxs last; simp_all; try omega); (conv at q => whnf); exact q)

end Go.Proofs.Ythmlninecfjjgaa.AD
