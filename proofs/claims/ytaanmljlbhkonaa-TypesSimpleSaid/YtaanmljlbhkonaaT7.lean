/- Chapter 20: may a tree be. -/
import Derived.Test.YtaanmljlbhkonaaT6
namespace Go.Proofs.Ytaanmljlbhkonaa.AD
open Go.Proofs
set_option linter.unusedVariables false
set_option linter.unusedSimpArgs false
set_option maxRecDepth 100000

def eqS (s t : ByteArray) : Bool := s.toList == t.toList
def textOk (o : Int) (t : ByteArray) : Bool :=
  if o = 1 then true
  else if o = 2 then nameB t && (!eqS t ⟨#[116, 114, 117, 101]⟩ && !eqS t ⟨#[102, 97, 108, 115, 101]⟩)
  else if o = 5 then digitsB t
  else if o = 7 then decB t
  else eqS t ⟨#[]⟩
mutual
def mayE : Ex → Bool
  | .mk o t xs => decide (arityI o = xs.length) && (textOk o t && mayL xs)
def mayL : List Ex → Bool
  | [] => true
  | a :: r => mayE a && mayL r
end
theorem mayL_all : ∀ xs, mayL xs = xs.all mayE
  | [] => rfl
  | a :: r => by rw [mayL, mayL_all r]; rfl

theorem shaped_of (e : Ex) : mayE e = true → Shaped e := by
  induction e using Ex.ind with
  | h o t xs ih =>
    intro h
    simp only [mayE, Bool.and_eq_true, decide_eq_true_eq, mayL_all, List.all_eq_true] at h
    exact .mk o t xs h.1 fun a ha => ih a ha (h.2.2 a ha)

/-! ### the program's -/
/-- The first of which something holds. -/
def idxF {α : Type} (p : α → Bool) : List α → Int
  | [] => -1
  | a :: r => if p a then 0 else if idxF p r = -1 then -1 else idxF p r + 1
theorem idxF_ge {α : Type} (p : α → Bool) : ∀ xs : List α, -1 ≤ idxF p xs
  | [] => by simp [idxF]
  | a :: r => by have := idxF_ge p r; simp only [idxF]; (repeat' split) <;> omega
theorem idxF_any {α : Type} (p : α → Bool) : ∀ xs : List α, decide (idxF p xs ≥ 0) = xs.any p
  | [] => by simp [idxF]
  | a :: r => by
    have h1 := idxF_any p r
    have h2 := idxF_ge p r
    rw [List.any_cons, ← h1]
    simp only [idxF]
    by_cases hp : p a = true
    · simp [hp]
    · have hp : p a = false := by simpa using hp
      simp only [hp, Bool.false_or, Bool.false_eq_true, if_false]
      by_cases h3 : idxF p r = -1
      · rw [if_pos h3, h3]
      · rw [if_neg h3, decide_eq_decide]; omega

theorem IndexFuncE_spec (xs : List Ex) (hx : (xs.length : Int) ≤ 9223372036854775807) (p : Ex → Bool) (f : Nat) (hf : enters Try.prog f = true) (hp : ∀ a, a ∈ xs → pureF Try.prog f [.p (enc a)] (.p (.bool (p a)))) :
    pureF Try.prog 67 [.p (.list 3 (encs xs)), .p (.fn (.func f))] (.p (.int .i64 (idxF p xs))) := by
  refine pureF_of f67_ok fun H => ?_
  (conv => whnf)
  intro R hR
  have he := encs_len xs
  have key : ∀ (rest : List Ex) (i : Nat), xs.drop i = rest → idxF p xs = (if idxF p rest = -1 then -1 else idxF p rest + i) → R [(0, .p (.list 3 (encs xs))), (1, .p (.fn (.func f))), (7, .p (.int .i64 (encs xs).length)), (8, .p (.int .i64 i))] H [] := by
    intro rest
    induction rest with
    | nil =>
      intro i hd hq
      have hl := drop_nil hd
      refine hR _ _ _ ?_
      (conv => whnf)
      refine splitB_f (decide_eq_false (by omega)) ?_
      exact ⟨by rw [hq]; rfl, rfl⟩
    | cons a r ih =>
      intro i hd hq
      obtain ⟨hg, hd', hi⟩ := drop_cons hd
      have hpa := hp a (List.mem_of_getElem? hg)
      refine hR _ _ _ ?_
      (conv => whnf)
      refine splitB_t (decide_eq_true (by omega)) ?_
      (conv => whnf)
      obtain ⟨o', t', xs'⟩ := a
      refine ⟨rfl, enc (.mk o' t' xs'), ⟨by omega, encs_get hg⟩, ?_⟩
      (conv => whnf)
      refine ⟨hf, ?_⟩
      refine CallVC.pureF hpa rfl ?_
      (conv => whnf)
      refine splitB_intro (fun h => ?_) (fun h => ?_)
      · exact ⟨by rw [hq]; simp [idxF, h], rfl⟩
      · (conv => whnf)
        rw [IntWalk.i64_in _ (by omega)]
        refine ih (i + 1) hd' ?_
        rw [hq]
        simp only [idxF, h, Bool.false_eq_true, if_false]
        have := idxF_ge p r
        by_cases h3 : idxF p r = -1
        · rw [if_pos h3, if_pos rfl, if_pos h3]
        · rw [if_neg h3, if_neg (by omega), if_neg h3]; push_cast; omega
  refine key xs 0 rfl ?_
  by_cases h3 : idxF p xs = -1
  · rw [if_pos h3]; exact h3
  · rw [if_neg h3]; simp

theorem ContainsFuncE_spec (xs : List Ex) (hx : (xs.length : Int) ≤ 9223372036854775807) (p : Ex → Bool) (f : Nat) (hf : enters Try.prog f = true) (hp : ∀ a, a ∈ xs → pureF Try.prog f [.p (enc a)] (.p (.bool (p a)))) :
    pureF Try.prog 47 [.p (.list 3 (encs xs)), .p (.fn (.func f))] (.p (.bool (xs.any p))) := by
  refine pureF_of f47_ok fun H => ?_
  (conv => whnf)
  refine CallVC.pureF (IndexFuncE_spec xs hx p f hf hp) rfl ?_
  exact ⟨by rw [← idxF_any], rfl⟩

theorem mayFn_spec (a : Ex) (h : pureF Try.prog 26 [.p (enc a)] (.p (.bool (mayE a)))) : pureF Try.prog 48 [.p (enc a)] (.p (.bool (!mayE a))) := by
  refine pureF_of f48_ok fun H => ?_
  obtain ⟨o, t, xs⟩ := a
  (conv => whnf)
  refine CallVC.pureF h rfl ?_
  exact ⟨rfl, rfl⟩

theorem may_spec (e : Ex) : Fits e → pureF Try.prog 26 [.p (enc e)] (.p (.bool (mayE e))) := by
  induction e using Ex.ind with
  | h o t xs ih =>
    intro hfit
    cases hfit with
    | mk _ _ _ ho ht hx hxs =>
    have he := encs_len xs
    have hany : pureF Try.prog 47 [.p (.list 3 (encs xs)), .p (.fn (.func 48))] (.p (.bool (xs.any fun a => !mayE a))) :=
      ContainsFuncE_spec xs hx (fun a => !mayE a) 48 (by kernel_rfl) fun a ha => mayFn_spec a (ih a ha (hxs a ha))
    have hall : (!(xs.any fun a => !mayE a)) = mayL xs := by rw [mayL_all, List.not_any_eq_all_not]; simp
    refine pureF_of f26_ok fun H => ?_
    (conv => whnf)
    refine CallD.pureF (arity_spec o ho) rfl ?_
    (conv => whnf)
    refine splitB_ne (fun h => ?_) (fun h => ?_)
    · exact ⟨by rw [mayE, decide_eq_false (by omega)]; rfl, rfl⟩
    · have h2 : mayE (.mk o t xs) = (textOk o t && mayL xs) := by rw [mayE, decide_eq_true (by omega)]; rfl
      have last : ∀ b : Bool, textOk o t = b → W Try.prog f26.c26 [(1, .ref (.l 0) 0), (3, .p (.bool b))] H [.cells [.p (.int .u8 o), .p (.str t), .p (.list 3 (encs xs))]] (endQ f26 fun r' H' => r' = .p (.bool (mayE (.mk o t xs))) ∧ H' = H) := by
        intro b hb
        cases b with
        | false =>
          (conv => whnf)
          refine splitB_f rfl ?_
          exact ⟨by rw [h2, hb]; rfl, rfl⟩
        | true =>
          (conv => whnf)
          refine splitB_t rfl ?_
          (conv => whnf)
          refine CallVC.pureF hany rfl ?_
          exact ⟨by rw [h2, hb, ← hall]; rfl, rfl⟩
      (conv => whnf)
      refine splitB_eq (fun h3 => ?_) (fun h3 => ?_)
      · have q := last true (by rw [textOk, if_pos h3])
        (conv at q => whnf)
        (conv => whnf)
        exact q
      · (conv => whnf)
        refine splitB_eq (fun h4 => ?_) (fun h4 => ?_)
        · have ht2 : textOk o t = (nameB t && (!eqS t ⟨#[116, 114, 117, 101]⟩ && !eqS t ⟨#[102, 97, 108, 115, 101]⟩)) := by rw [textOk, if_neg h3, if_pos h4]
          (conv => whnf)
          refine CallVC.pureF (Name_spec t ht) rfl ?_
          (conv => whnf)
          refine splitB_intro (fun h5 => ?_) (fun h5 => ?_)
          · have h5 : nameB t = true := h5
            (conv => whnf)
            refine splitB_intro (fun h6 => ?_) (fun h6 => ?_)
            · have h6 : (!eqS t ⟨#[116, 114, 117, 101]⟩) = true := h6
              have q := last (!eqS t ⟨#[102, 97, 108, 115, 101]⟩) (by rw [ht2, h5, h6]; rfl)
              (conv at q => whnf)
              (conv => whnf)
              exact q
            · have h6 : (!eqS t ⟨#[116, 114, 117, 101]⟩) = false := h6
              have q := last false (by rw [ht2, h5, h6]; rfl)
              (conv at q => whnf)
              (conv => whnf)
              exact q
          · have h5 : nameB t = false := h5
            (conv => whnf)
            refine splitB_f rfl ?_
            have q := last false (by rw [ht2, h5]; rfl)
            (conv at q => whnf)
            (conv => whnf)
            exact q
        · (conv => whnf)
          refine splitB_eq (fun h5 => ?_) (fun h5 => ?_)
          · (conv => whnf)
            refine CallVC.pureF (digits_spec t ht) rfl ?_
            have q := last (digitsB t) (by rw [textOk, if_neg h3, if_neg h4, if_pos h5])
            (conv at q => whnf)
            (conv => whnf)
            exact q
          · (conv => whnf)
            refine splitB_eq (fun h6 => ?_) (fun h6 => ?_)
            · have ht2 : textOk o t = decB t := by rw [textOk, if_neg h3, if_neg h4, if_neg h5, if_pos h6]
              have hsz : ∀ a b, ((t.extract a b).size : Int) ≤ 9223372036854775807 := fun a b => by
                have : (t.extract a b).size ≤ t.size := by simp [ByteArray.size_extract]; omega
                omega
              have hs1 : ((cutAt t 46).1.size : Int) ≤ 9223372036854775807 := by
                rw [cutAt]; split
                · exact hsz _ _
                · exact ht
              have hs2 : ((cutAt t 46).2.1.size : Int) ≤ 9223372036854775807 := by
                rw [cutAt]; split
                · exact hsz _ _
                · show ((0 : Nat) : Int) ≤ 9223372036854775807
                  omega
              (conv => whnf)
              refine CallVC.pureF (Cut_spec t ht 46) rfl ?_
              (conv => whnf)
              refine splitB_intro (fun h7 => ?_) (fun h7 => ?_)
              · have h7 : (cutAt t 46).2.2 = true := h7
                (conv => whnf)
                refine CallVC.pureF (digits_spec _ hs1) rfl ?_
                (conv => whnf)
                refine splitB_intro (fun h8 => ?_) (fun h8 => ?_)
                · have h8 : digitsB (cutAt t 46).1 = true := h8
                  (conv => whnf)
                  refine CallVC.pureF (digits_spec _ hs2) rfl ?_
                  have q := last (digitsB (cutAt t 46).2.1) (by rw [ht2, decB, h7, h8]; rfl)
                  (conv at q => whnf)
                  (conv => whnf)
                  exact q
                · have h8 : digitsB (cutAt t 46).1 = false := h8
                  have q := last false (by rw [ht2, decB, h7, h8]; rfl)
                  (conv at q => whnf)
                  (conv => whnf)
                  exact q
              · have h7 : (cutAt t 46).2.2 = false := h7
                (conv => whnf)
                refine splitB_f rfl ?_
                have q := last false (by rw [ht2, decB, h7]; rfl)
                (conv at q => whnf)
                (conv => whnf)
                exact q
            · have q := last (eqS t ⟨#[]⟩) (by rw [textOk, if_neg h3, if_neg h4, if_neg h5, if_neg h6])
              (conv at q => whnf)
              (conv => whnf)
              exact q

/-! ### the document's -/
theorem May_spec (e : Ex) : Fits e → pureF Try.prog 23 [.p (enc e)] (.p (.bool (mayE e))) := by
  induction e using Ex.ind with
  | h o t xs ih =>
    intro hfit
    cases hfit with
    | mk _ _ _ ho ht hx hxs =>
    have he := encs_len xs
    refine pureF_of f23_ok fun H => ?_
    (conv => whnf)
    refine CallD.pureF (Parts_spec o) rfl ?_
    (conv => whnf)
    refine splitB_ne (fun h => ?_) (fun h => ?_)
    · exact ⟨by rw [mayE, decide_eq_false (by omega)]; rfl, rfl⟩
    · have h2 : mayE (.mk o t xs) = (textOk o t && mayL xs) := by rw [mayE, decide_eq_true (by omega)]; rfl
      have last : ∀ b : Bool, textOk o t = b → W Try.prog f23.c39 [(1, .ref (.l 0) 0), (3, .p (.bool b))] H [.cells [.p (.int .u8 o), .p (.str t), .p (.list 3 (encs xs))]] (endQ f23 fun r' H' => r' = .p (.bool (mayE (.mk o t xs))) ∧ H' = H) := by
        intro b hb
        cases b with
        | false =>
          (conv => whnf)
          refine splitB_t rfl ?_
          exact ⟨by rw [h2, hb]; rfl, rfl⟩
        | true =>
          rw [hb, Bool.true_and] at h2
          (conv => whnf)
          refine splitB_f rfl ?_
          (conv => whnf)
          intro R hR
          have key : ∀ (rest : List Ex) (i : Nat), xs.drop i = rest → mayL xs = mayL rest → R [(1, .ref (.l 0) 0), (4, .p (.int .i64 i))] H [.cells [.p (.int .u8 o), .p (.str t), .p (.list 3 (encs xs))]] := by
            intro rest
            induction rest with
            | nil =>
              intro i hd hq
              have hl := drop_nil hd
              refine hR _ _ _ ?_
              (conv => whnf)
              refine splitB_f (decide_eq_false (by omega)) ?_
              exact ⟨by rw [h2, hq]; rfl, rfl⟩
            | cons a r ihr =>
              intro i hd hq
              obtain ⟨hg, hd', hi⟩ := drop_cons hd
              have iha := ih a (List.mem_of_getElem? hg) (hxs a (List.mem_of_getElem? hg))
              rw [mayL] at hq
              refine hR _ _ _ ?_
              (conv => whnf)
              refine splitB_t (decide_eq_true (by omega)) ?_
              (conv => whnf)
              obtain ⟨o', t', xs'⟩ := a
              refine ⟨rfl, enc (.mk o' t' xs'), ⟨by omega, encs_get hg⟩, ?_⟩
              (conv => whnf)
              refine CallVC.pureF iha rfl ?_
              (conv => whnf)
              refine splitB_intro (fun h3 => ?_) (fun h3 => ?_)
              · have h3 : mayE (.mk o' t' xs') = false := by simpa using h3
                exact ⟨by rw [h2, hq, h3]; rfl, rfl⟩
              · have h3 : mayE (.mk o' t' xs') = true := by simpa using h3
                (conv => whnf)
                rw [IntWalk.i64_in _ (by omega)]
                exact ihr (i + 1) hd' (by rw [hq, h3]; rfl)
          exact key xs 0 rfl rfl
      (conv => whnf)
      refine splitB_eq (fun h3 => ?_) (fun h3 => ?_)
      · have q := last true (by rw [textOk, if_pos h3])
        (conv at q => whnf)
        (conv => whnf)
        exact q
      · (conv => whnf)
        refine splitB_eq (fun h4 => ?_) (fun h4 => ?_)
        · have ht2 : textOk o t = (nameB t && (!eqS t ⟨#[116, 114, 117, 101]⟩ && !eqS t ⟨#[102, 97, 108, 115, 101]⟩)) := by rw [textOk, if_neg h3, if_pos h4]
          (conv => whnf)
          refine CallVC.pureF (refName_spec t ht) rfl ?_
          (conv => whnf)
          refine splitB_intro (fun h5 => ?_) (fun h5 => ?_)
          · have h5 : nameB t = true := h5
            (conv => whnf)
            refine splitB_intro (fun h6 => ?_) (fun h6 => ?_)
            · have h6 : (!eqS t ⟨#[116, 114, 117, 101]⟩) = true := h6
              have q := last (!eqS t ⟨#[102, 97, 108, 115, 101]⟩) (by rw [ht2, h5, h6]; rfl)
              (conv at q => whnf)
              (conv => whnf)
              exact q
            · have h6 : (!eqS t ⟨#[116, 114, 117, 101]⟩) = false := h6
              have q := last false (by rw [ht2, h5, h6]; rfl)
              (conv at q => whnf)
              (conv => whnf)
              exact q
          · have h5 : nameB t = false := h5
            (conv => whnf)
            refine splitB_f rfl ?_
            have q := last false (by rw [ht2, h5]; rfl)
            (conv at q => whnf)
            (conv => whnf)
            exact q
        · (conv => whnf)
          refine splitB_eq (fun h5 => ?_) (fun h5 => ?_)
          · (conv => whnf)
            refine CallVC.pureF (refDigits_spec t ht) rfl ?_
            have q := last (digitsB t) (by rw [textOk, if_neg h3, if_neg h4, if_pos h5])
            (conv at q => whnf)
            (conv => whnf)
            exact q
          · (conv => whnf)
            refine splitB_eq (fun h6 => ?_) (fun h6 => ?_)
            · (conv => whnf)
              refine CallVC.pureF (Dec_spec t ht) rfl ?_
              have q := last (decB t) (by rw [textOk, if_neg h3, if_neg h4, if_neg h5, if_pos h6])
              (conv at q => whnf)
              (conv => whnf)
              exact q
            · have q := last (eqS t ⟨#[]⟩) (by rw [textOk, if_neg h3, if_neg h4, if_neg h5, if_neg h6])
              (conv at q => whnf)
              (conv => whnf)
              exact q

end Go.Proofs.Ytaanmljlbhkonaa.AD
