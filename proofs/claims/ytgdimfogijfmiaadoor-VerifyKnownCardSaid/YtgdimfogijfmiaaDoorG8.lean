/- Chapter 23: what an instruction of a program for conditions does. (gen_v6.py has printed this text.) -/
import Derived.Test.YtgdimfogijfmiaaDoorG7
namespace Go.Proofs.YtgdimfogijfmiaaDoor.AD
open Go.Proofs
set_option linter.unusedVariables false
set_option linter.unusedSimpArgs false
set_option maxRecDepth 100000
variable {ba : List Ob}

def condsB (p : Pg) (i : Int) (x : Ins) (s : KS) : Option KS :=
  if x.op = 1 ∨ x.op = 4 then (if vnamedB p.T x then some (s.swap 0 [1]) else none)
  else if x.op = 2 then (if vnamedB p.T x then some (s.swap 0 [2]) else none)
  else if x.op = 3 then (if vnamedB p.T x then some (s.swap 0 [3]) else none)
  else if x.op = 24 ∨ x.op = 25 then some (s.swap 0 [4])
  else if x.op = 5 then (if topS s.st 1 = 1 then some s else none)
  else if x.op = 6 then (if topS s.st 1 = 1 then some (s.swap 1 [2]) else none)
  else if x.op = 7 then (if topS s.st 1 = 1 then some (s.swap 1 [3]) else none)
  else if x.op = 8 then (if topS s.st 2 = 1 ∧ topS s.st 1 = 1 then some (s.swap 2 [1]) else none)
  else if x.op = 22 then (if topS s.st 2 = 1 ∧ topS s.st 1 = 1 then some (s.swap 2 [4]) else none)
  else if x.op = 9 then (if numK (topS s.st 1) then some s else none)
  else if 10 ≤ x.op ∧ x.op ≤ 15 then arithB x.op s
  else if 16 ≤ x.op ∧ x.op ≤ 21 then (if (topS s.st 2 = 1 ∧ topS s.st 1 = 1) ∨ (numK (topS s.st 2) = true ∧ numK (topS s.st 1) = true) then some (s.swap 2 [4]) else none)
  else if x.op = 23 then (if topS s.st 1 = 4 then some s else none)
  else if x.op = 26 ∨ x.op = 27 then (if topS s.st 1 = 4 then (forwardB p i x.a s).map fun s => s.swap 1 [] else none)
  else if x.op = 28 then (if topS s.st 1 = 4 then forwardB p i x.a (s.swap 1 []) else none)
  else if x.op = 29 then (forwardB p i x.a s).map fun s => s.swap 0 [8 + x.a]
  else if x.op = 30 then (if markK (topS s.st 1) then some (s.swap 1 []) else none)
  else if x.op = 31 then (if topS s.st 1 = 1 then some (s.swap 1 []) else none)
  else if x.op = 32 then some s
  else if x.op = 33 then (if s.st.length = 0 then some s else none)
  else none

theorem forward_st {p : Pg} {i to : Int} {s s' : KS} (h : forwardB p i to s = some s') : s'.st = s.st := by
  unfold forwardB at h
  split at h
  · cases h
  · cases h; rfl
theorem num_pos {st : List Int} {n : Nat} (h : numK (topS st n) = true) : n ≤ st.length := by
  rcases Nat.lt_or_ge st.length n with h1 | h1
  · rw [topS, if_neg (by omega)] at h; cases h
  · exact h1
theorem mark_pos {st : List Int} {n : Nat} (h : markK (topS st n) = true) : n ≤ st.length := by
  rcases Nat.lt_or_ge st.length n with h1 | h1
  · rw [topS, if_neg (by omega)] at h; cases h
  · exact h1

set_option maxHeartbeats 8000000 in
theorem conds_spec (p : Pg) (hp : p.fits) (i : Int) (x : Ins) (hx1 : 1 ≤ x.op ∧ x.op ≤ 38) (hxa : 0 ≤ x.a ∧ x.a ≤ 2147483647) (s : KS) (hst : (s.st.length : Int) ≤ 1000000000) (hpd : ∀ q, q ∈ s.pd → (q.2.length : Int) ≤ 1073741824) : MO p 46 [.p (.int .i64 i), .p (insP x)] s (condsB p i x s) := by
  intro ba lo K hcs hK
  refine CallVC.inline f46_ok ?_
  obtain ⟨o, a, b⟩ := x
  have ha : 0 ≤ a := hxa.1
  have hb : a ≤ 2147483647 := hxa.2
  have ho : 1 ≤ o ∧ o ≤ 38 := hx1
  (conv => whnf)
  refine topN_spec _ _ _ _ s 2 (by omega) (by omega) (by omega) lo _ hcs fun lo hcs => ?_
  (conv => whnf)
  refine topN_spec _ _ _ _ s 1 (by omega) (by omega) (by omega) lo _ hcs fun lo hcs => ?_
  have done : ∀ (bb : Bool) s' lo', CP p s' lo' → (∀ s'', condsB p i ⟨o, a, b⟩ s = some s'' → s' = s'') → bb = (condsB p i ⟨o, a, b⟩ s).isSome → K (.p (.bool bb)) ba lo' := fun bb s' lo' h1 h2 h3 => by rw [h3]; exact hK lo' s' h1 h2
  have yes : ∀ s' lo', condsB p i ⟨o, a, b⟩ s = some s' → CP p s' lo' → K (.p (.bool true)) ba lo' := fun s' lo' h h' => done true s' lo' h' (fun _ e => by rw [h] at e; exact Option.some.inj e) (by rw [h]; rfl)
  have no : ∀ s' lo', condsB p i ⟨o, a, b⟩ s = none → CP p s' lo' → K (.p (.bool false)) ba lo' := fun s' lo' h h' => done false s' lo' h' (fun _ e => by rw [h] at e; cases e) (by rw [h]; rfl)
  (conv => whnf)
  have hc : o = 1 ∨ o = 2 ∨ o = 3 ∨ o = 4 ∨ o = 5 ∨ o = 6 ∨ o = 7 ∨ o = 8 ∨ o = 9 ∨ o = 10 ∨ o = 11 ∨ o = 12 ∨ o = 13 ∨ o = 14 ∨ o = 15 ∨ o = 16 ∨ o = 17 ∨ o = 18 ∨ o = 19 ∨ o = 20 ∨ o = 21 ∨ o = 22 ∨ o = 23 ∨ o = 24 ∨ o = 25 ∨ o = 26 ∨ o = 27 ∨ o = 28 ∨ o = 29 ∨ o = 30 ∨ o = 31 ∨ o = 32 ∨ o = 33 ∨ o = 34 ∨ o = 35 ∨ o = 36 ∨ o = 37 ∨ o = 38 := by omega
  rcases hc with rfl | rfl | rfl | rfl | rfl | rfl | rfl | rfl | rfl | rfl | rfl | rfl | rfl | rfl | rfl | rfl | rfl | rfl | rfl | rfl | rfl | rfl | rfl | rfl | rfl | rfl | rfl | rfl | rfl | rfl | rfl | rfl | rfl | rfl | rfl | rfl | rfl | rfl
  · repeat (first | (refine splitB_f rfl ?_; (conv => whnf)) | (refine splitB_t rfl ?_; (conv => whnf)))
    refine named23_spec p hp ⟨_, a, b⟩ ha s lo _ hcs fun lo hcs => ?_
    (conv => whnf)
    refine splitB_intro (fun hn => ?_) (fun hn => ?_)
    · have hn : vnamedB p.T ⟨1, a, b⟩ = true := hn
      (conv => whnf)
      refine swap_spec _ _ _ _ s 0 [1] _ (.inr rfl) (Nat.zero_le _) (by simp; omega) lo _ hcs fun lo hcs => ?_
      (conv => whnf)
      exact yes _ _ (by simp [condsB, hn]) hcs
    · have hn : vnamedB p.T ⟨1, a, b⟩ = false := hn
      (conv => whnf)
      exact no _ _ (by simp [condsB, hn]) hcs
  · repeat (first | (refine splitB_f rfl ?_; (conv => whnf)) | (refine splitB_t rfl ?_; (conv => whnf)))
    refine named23_spec p hp ⟨_, a, b⟩ ha s lo _ hcs fun lo hcs => ?_
    (conv => whnf)
    refine splitB_intro (fun hn => ?_) (fun hn => ?_)
    · have hn : vnamedB p.T ⟨2, a, b⟩ = true := hn
      (conv => whnf)
      refine swap_spec _ _ _ _ s 0 [2] _ (.inr rfl) (Nat.zero_le _) (by simp; omega) lo _ hcs fun lo hcs => ?_
      (conv => whnf)
      exact yes _ _ (by simp [condsB, hn]) hcs
    · have hn : vnamedB p.T ⟨2, a, b⟩ = false := hn
      (conv => whnf)
      exact no _ _ (by simp [condsB, hn]) hcs
  · repeat (first | (refine splitB_f rfl ?_; (conv => whnf)) | (refine splitB_t rfl ?_; (conv => whnf)))
    refine named23_spec p hp ⟨_, a, b⟩ ha s lo _ hcs fun lo hcs => ?_
    (conv => whnf)
    refine splitB_intro (fun hn => ?_) (fun hn => ?_)
    · have hn : vnamedB p.T ⟨3, a, b⟩ = true := hn
      (conv => whnf)
      refine swap_spec _ _ _ _ s 0 [3] _ (.inr rfl) (Nat.zero_le _) (by simp; omega) lo _ hcs fun lo hcs => ?_
      (conv => whnf)
      exact yes _ _ (by simp [condsB, hn]) hcs
    · have hn : vnamedB p.T ⟨3, a, b⟩ = false := hn
      (conv => whnf)
      exact no _ _ (by simp [condsB, hn]) hcs
  · repeat (first | (refine splitB_f rfl ?_; (conv => whnf)) | (refine splitB_t rfl ?_; (conv => whnf)))
    refine named23_spec p hp ⟨_, a, b⟩ ha s lo _ hcs fun lo hcs => ?_
    (conv => whnf)
    refine splitB_intro (fun hn => ?_) (fun hn => ?_)
    · have hn : vnamedB p.T ⟨4, a, b⟩ = true := hn
      (conv => whnf)
      refine swap_spec _ _ _ _ s 0 [1] _ (.inr rfl) (Nat.zero_le _) (by simp; omega) lo _ hcs fun lo hcs => ?_
      (conv => whnf)
      exact yes _ _ (by simp [condsB, hn]) hcs
    · have hn : vnamedB p.T ⟨4, a, b⟩ = false := hn
      (conv => whnf)
      exact no _ _ (by simp [condsB, hn]) hcs
  · repeat (first | (refine splitB_f rfl ?_; (conv => whnf)) | (refine splitB_t rfl ?_; (conv => whnf)))
    exact done _ _ _ hcs (fun s'' e => by (simp [condsB] at e; exact e.2)) (by by_cases ht : topS s.st 1 = 1 <;> simp [condsB, ht])
  · repeat (first | (refine splitB_f rfl ?_; (conv => whnf)) | (refine splitB_t rfl ?_; (conv => whnf)))
    refine splitB_eq (fun h1 => ?_) (fun h1 => ?_)
    · (conv => whnf)
      refine swap_spec _ _ _ _ s 1 [2] _ (.inr rfl) (topS_pos h1 (by omega)) (by simp; omega) lo _ hcs fun lo hcs => ?_
      (conv => whnf)
      exact yes _ _ (by simp [condsB, h1]) hcs
    · (conv => whnf)
      exact no _ _ (by simp [condsB, h1]) hcs
  · repeat (first | (refine splitB_f rfl ?_; (conv => whnf)) | (refine splitB_t rfl ?_; (conv => whnf)))
    refine splitB_eq (fun h1 => ?_) (fun h1 => ?_)
    · (conv => whnf)
      refine swap_spec _ _ _ _ s 1 [3] _ (.inr rfl) (topS_pos h1 (by omega)) (by simp; omega) lo _ hcs fun lo hcs => ?_
      (conv => whnf)
      exact yes _ _ (by simp [condsB, h1]) hcs
    · (conv => whnf)
      exact no _ _ (by simp [condsB, h1]) hcs
  · repeat (first | (refine splitB_f rfl ?_; (conv => whnf)) | (refine splitB_t rfl ?_; (conv => whnf)))
    refine splitB_eq (fun h2 => ?_) (fun h2 => ?_)
    · (conv => whnf)
      refine splitB_eq (fun h1 => ?_) (fun h1 => ?_)
      · (conv => whnf)
        refine swap_spec _ _ _ _ s 2 [1] _ (.inr rfl) (topS_pos h2 (by omega)) (by simp; omega) lo _ hcs fun lo hcs => ?_
        (conv => whnf)
        exact yes _ _ (by simp [condsB, h1, h2]) hcs
      · (conv => whnf)
        exact no _ _ (by simp [condsB, h1]) hcs
    · (conv => whnf)
      refine splitB_f rfl ?_
      (conv => whnf)
      exact no _ _ (by simp [condsB, h2]) hcs
  · repeat (first | (refine splitB_f rfl ?_; (conv => whnf)) | (refine splitB_t rfl ?_; (conv => whnf)))
    refine CallVC.pureF (vnumber_spec _) rfl ?_
    (conv => whnf)
    exact done _ _ _ hcs (fun s'' e => by (simp [condsB] at e; exact e.2)) (by cases ht : numK (topS s.st 1) <;> simp [condsB, ht])
  · repeat (first | (refine splitB_f rfl ?_; (conv => whnf)) | (refine splitB_t rfl ?_; (conv => whnf)))
    have hr : condsB p i ⟨10, a, b⟩ s = arithB 10 s := by simp [condsB]
    rw [hr] at hK
    refine arith_spec p 10 s hst lo _ hcs fun lo' s' h1 h2 => ?_
    (conv => whnf)
    exact hK lo' s' h1 h2
  · repeat (first | (refine splitB_f rfl ?_; (conv => whnf)) | (refine splitB_t rfl ?_; (conv => whnf)))
    have hr : condsB p i ⟨11, a, b⟩ s = arithB 11 s := by simp [condsB]
    rw [hr] at hK
    refine arith_spec p 11 s hst lo _ hcs fun lo' s' h1 h2 => ?_
    (conv => whnf)
    exact hK lo' s' h1 h2
  · repeat (first | (refine splitB_f rfl ?_; (conv => whnf)) | (refine splitB_t rfl ?_; (conv => whnf)))
    have hr : condsB p i ⟨12, a, b⟩ s = arithB 12 s := by simp [condsB]
    rw [hr] at hK
    refine arith_spec p 12 s hst lo _ hcs fun lo' s' h1 h2 => ?_
    (conv => whnf)
    exact hK lo' s' h1 h2
  · repeat (first | (refine splitB_f rfl ?_; (conv => whnf)) | (refine splitB_t rfl ?_; (conv => whnf)))
    have hr : condsB p i ⟨13, a, b⟩ s = arithB 13 s := by simp [condsB]
    rw [hr] at hK
    refine arith_spec p 13 s hst lo _ hcs fun lo' s' h1 h2 => ?_
    (conv => whnf)
    exact hK lo' s' h1 h2
  · repeat (first | (refine splitB_f rfl ?_; (conv => whnf)) | (refine splitB_t rfl ?_; (conv => whnf)))
    have hr : condsB p i ⟨14, a, b⟩ s = arithB 14 s := by simp [condsB]
    rw [hr] at hK
    refine arith_spec p 14 s hst lo _ hcs fun lo' s' h1 h2 => ?_
    (conv => whnf)
    exact hK lo' s' h1 h2
  · repeat (first | (refine splitB_f rfl ?_; (conv => whnf)) | (refine splitB_t rfl ?_; (conv => whnf)))
    have hr : condsB p i ⟨15, a, b⟩ s = arithB 15 s := by simp [condsB]
    rw [hr] at hK
    refine arith_spec p 15 s hst lo _ hcs fun lo' s' h1 h2 => ?_
    (conv => whnf)
    exact hK lo' s' h1 h2
  · repeat (first | (refine splitB_f rfl ?_; (conv => whnf)) | (refine splitB_t rfl ?_; (conv => whnf)))
    refine splitB_eq (fun h2 => ?_) (fun h2 => ?_)
    · (conv => whnf)
      refine splitB_eq (fun h1 => ?_) (fun h1 => ?_)
      · (conv => whnf)
        refine splitB_t rfl ?_
        (conv => whnf)
        refine swap_spec _ _ _ _ s 2 [4] _ (.inr rfl) (topS_pos h2 (by omega)) (by simp; omega) lo _ hcs fun lo hcs => ?_
        (conv => whnf)
        exact yes _ _ (by simp [condsB, h1, h2]) hcs
      · (conv => whnf)
        refine CallVC.pureF (vnumber_spec _) rfl ?_
        (conv => whnf)
        refine splitB_intro (fun h3 => ?_) (fun h3 => ?_)
        · have h3 : numK (topS s.st 2) = true := h3
          (conv => whnf)
          refine CallVC.pureF (vnumber_spec _) rfl ?_
          (conv => whnf)
          refine splitB_intro (fun h4 => ?_) (fun h4 => ?_)
          · have h4 : numK (topS s.st 1) = true := h4
            (conv => whnf)
            refine swap_spec _ _ _ _ s 2 [4] _ (.inr rfl) (num_pos h3) (by simp; omega) lo _ hcs fun lo hcs => ?_
            (conv => whnf)
            exact yes _ _ (by simp [condsB, h3, h4]) hcs
          · have h4 : numK (topS s.st 1) = false := h4
            (conv => whnf)
            exact no _ _ (by simp [condsB, h4, h1]) hcs
        · have h3 : numK (topS s.st 2) = false := h3
          (conv => whnf)
          refine splitB_f rfl ?_
          (conv => whnf)
          exact no _ _ (by simp [condsB, h3, h1]) hcs
    · (conv => whnf)
      refine splitB_f rfl ?_
      (conv => whnf)
      refine CallVC.pureF (vnumber_spec _) rfl ?_
      (conv => whnf)
      refine splitB_intro (fun h3 => ?_) (fun h3 => ?_)
      · have h3 : numK (topS s.st 2) = true := h3
        (conv => whnf)
        refine CallVC.pureF (vnumber_spec _) rfl ?_
        (conv => whnf)
        refine splitB_intro (fun h4 => ?_) (fun h4 => ?_)
        · have h4 : numK (topS s.st 1) = true := h4
          (conv => whnf)
          refine swap_spec _ _ _ _ s 2 [4] _ (.inr rfl) (num_pos h3) (by simp; omega) lo _ hcs fun lo hcs => ?_
          (conv => whnf)
          exact yes _ _ (by simp [condsB, h3, h4]) hcs
        · have h4 : numK (topS s.st 1) = false := h4
          (conv => whnf)
          exact no _ _ (by simp [condsB, h4, h2]) hcs
      · have h3 : numK (topS s.st 2) = false := h3
        (conv => whnf)
        refine splitB_f rfl ?_
        (conv => whnf)
        exact no _ _ (by simp [condsB, h3, h2]) hcs
  · repeat (first | (refine splitB_f rfl ?_; (conv => whnf)) | (refine splitB_t rfl ?_; (conv => whnf)))
    refine splitB_eq (fun h2 => ?_) (fun h2 => ?_)
    · (conv => whnf)
      refine splitB_eq (fun h1 => ?_) (fun h1 => ?_)
      · (conv => whnf)
        refine splitB_t rfl ?_
        (conv => whnf)
        refine swap_spec _ _ _ _ s 2 [4] _ (.inr rfl) (topS_pos h2 (by omega)) (by simp; omega) lo _ hcs fun lo hcs => ?_
        (conv => whnf)
        exact yes _ _ (by simp [condsB, h1, h2]) hcs
      · (conv => whnf)
        refine CallVC.pureF (vnumber_spec _) rfl ?_
        (conv => whnf)
        refine splitB_intro (fun h3 => ?_) (fun h3 => ?_)
        · have h3 : numK (topS s.st 2) = true := h3
          (conv => whnf)
          refine CallVC.pureF (vnumber_spec _) rfl ?_
          (conv => whnf)
          refine splitB_intro (fun h4 => ?_) (fun h4 => ?_)
          · have h4 : numK (topS s.st 1) = true := h4
            (conv => whnf)
            refine swap_spec _ _ _ _ s 2 [4] _ (.inr rfl) (num_pos h3) (by simp; omega) lo _ hcs fun lo hcs => ?_
            (conv => whnf)
            exact yes _ _ (by simp [condsB, h3, h4]) hcs
          · have h4 : numK (topS s.st 1) = false := h4
            (conv => whnf)
            exact no _ _ (by simp [condsB, h4, h1]) hcs
        · have h3 : numK (topS s.st 2) = false := h3
          (conv => whnf)
          refine splitB_f rfl ?_
          (conv => whnf)
          exact no _ _ (by simp [condsB, h3, h1]) hcs
    · (conv => whnf)
      refine splitB_f rfl ?_
      (conv => whnf)
      refine CallVC.pureF (vnumber_spec _) rfl ?_
      (conv => whnf)
      refine splitB_intro (fun h3 => ?_) (fun h3 => ?_)
      · have h3 : numK (topS s.st 2) = true := h3
        (conv => whnf)
        refine CallVC.pureF (vnumber_spec _) rfl ?_
        (conv => whnf)
        refine splitB_intro (fun h4 => ?_) (fun h4 => ?_)
        · have h4 : numK (topS s.st 1) = true := h4
          (conv => whnf)
          refine swap_spec _ _ _ _ s 2 [4] _ (.inr rfl) (num_pos h3) (by simp; omega) lo _ hcs fun lo hcs => ?_
          (conv => whnf)
          exact yes _ _ (by simp [condsB, h3, h4]) hcs
        · have h4 : numK (topS s.st 1) = false := h4
          (conv => whnf)
          exact no _ _ (by simp [condsB, h4, h2]) hcs
      · have h3 : numK (topS s.st 2) = false := h3
        (conv => whnf)
        refine splitB_f rfl ?_
        (conv => whnf)
        exact no _ _ (by simp [condsB, h3, h2]) hcs
  · repeat (first | (refine splitB_f rfl ?_; (conv => whnf)) | (refine splitB_t rfl ?_; (conv => whnf)))
    refine splitB_eq (fun h2 => ?_) (fun h2 => ?_)
    · (conv => whnf)
      refine splitB_eq (fun h1 => ?_) (fun h1 => ?_)
      · (conv => whnf)
        refine splitB_t rfl ?_
        (conv => whnf)
        refine swap_spec _ _ _ _ s 2 [4] _ (.inr rfl) (topS_pos h2 (by omega)) (by simp; omega) lo _ hcs fun lo hcs => ?_
        (conv => whnf)
        exact yes _ _ (by simp [condsB, h1, h2]) hcs
      · (conv => whnf)
        refine CallVC.pureF (vnumber_spec _) rfl ?_
        (conv => whnf)
        refine splitB_intro (fun h3 => ?_) (fun h3 => ?_)
        · have h3 : numK (topS s.st 2) = true := h3
          (conv => whnf)
          refine CallVC.pureF (vnumber_spec _) rfl ?_
          (conv => whnf)
          refine splitB_intro (fun h4 => ?_) (fun h4 => ?_)
          · have h4 : numK (topS s.st 1) = true := h4
            (conv => whnf)
            refine swap_spec _ _ _ _ s 2 [4] _ (.inr rfl) (num_pos h3) (by simp; omega) lo _ hcs fun lo hcs => ?_
            (conv => whnf)
            exact yes _ _ (by simp [condsB, h3, h4]) hcs
          · have h4 : numK (topS s.st 1) = false := h4
            (conv => whnf)
            exact no _ _ (by simp [condsB, h4, h1]) hcs
        · have h3 : numK (topS s.st 2) = false := h3
          (conv => whnf)
          refine splitB_f rfl ?_
          (conv => whnf)
          exact no _ _ (by simp [condsB, h3, h1]) hcs
    · (conv => whnf)
      refine splitB_f rfl ?_
      (conv => whnf)
      refine CallVC.pureF (vnumber_spec _) rfl ?_
      (conv => whnf)
      refine splitB_intro (fun h3 => ?_) (fun h3 => ?_)
      · have h3 : numK (topS s.st 2) = true := h3
        (conv => whnf)
        refine CallVC.pureF (vnumber_spec _) rfl ?_
        (conv => whnf)
        refine splitB_intro (fun h4 => ?_) (fun h4 => ?_)
        · have h4 : numK (topS s.st 1) = true := h4
          (conv => whnf)
          refine swap_spec _ _ _ _ s 2 [4] _ (.inr rfl) (num_pos h3) (by simp; omega) lo _ hcs fun lo hcs => ?_
          (conv => whnf)
          exact yes _ _ (by simp [condsB, h3, h4]) hcs
        · have h4 : numK (topS s.st 1) = false := h4
          (conv => whnf)
          exact no _ _ (by simp [condsB, h4, h2]) hcs
      · have h3 : numK (topS s.st 2) = false := h3
        (conv => whnf)
        refine splitB_f rfl ?_
        (conv => whnf)
        exact no _ _ (by simp [condsB, h3, h2]) hcs
  · repeat (first | (refine splitB_f rfl ?_; (conv => whnf)) | (refine splitB_t rfl ?_; (conv => whnf)))
    refine splitB_eq (fun h2 => ?_) (fun h2 => ?_)
    · (conv => whnf)
      refine splitB_eq (fun h1 => ?_) (fun h1 => ?_)
      · (conv => whnf)
        refine splitB_t rfl ?_
        (conv => whnf)
        refine swap_spec _ _ _ _ s 2 [4] _ (.inr rfl) (topS_pos h2 (by omega)) (by simp; omega) lo _ hcs fun lo hcs => ?_
        (conv => whnf)
        exact yes _ _ (by simp [condsB, h1, h2]) hcs
      · (conv => whnf)
        refine CallVC.pureF (vnumber_spec _) rfl ?_
        (conv => whnf)
        refine splitB_intro (fun h3 => ?_) (fun h3 => ?_)
        · have h3 : numK (topS s.st 2) = true := h3
          (conv => whnf)
          refine CallVC.pureF (vnumber_spec _) rfl ?_
          (conv => whnf)
          refine splitB_intro (fun h4 => ?_) (fun h4 => ?_)
          · have h4 : numK (topS s.st 1) = true := h4
            (conv => whnf)
            refine swap_spec _ _ _ _ s 2 [4] _ (.inr rfl) (num_pos h3) (by simp; omega) lo _ hcs fun lo hcs => ?_
            (conv => whnf)
            exact yes _ _ (by simp [condsB, h3, h4]) hcs
          · have h4 : numK (topS s.st 1) = false := h4
            (conv => whnf)
            exact no _ _ (by simp [condsB, h4, h1]) hcs
        · have h3 : numK (topS s.st 2) = false := h3
          (conv => whnf)
          refine splitB_f rfl ?_
          (conv => whnf)
          exact no _ _ (by simp [condsB, h3, h1]) hcs
    · (conv => whnf)
      refine splitB_f rfl ?_
      (conv => whnf)
      refine CallVC.pureF (vnumber_spec _) rfl ?_
      (conv => whnf)
      refine splitB_intro (fun h3 => ?_) (fun h3 => ?_)
      · have h3 : numK (topS s.st 2) = true := h3
        (conv => whnf)
        refine CallVC.pureF (vnumber_spec _) rfl ?_
        (conv => whnf)
        refine splitB_intro (fun h4 => ?_) (fun h4 => ?_)
        · have h4 : numK (topS s.st 1) = true := h4
          (conv => whnf)
          refine swap_spec _ _ _ _ s 2 [4] _ (.inr rfl) (num_pos h3) (by simp; omega) lo _ hcs fun lo hcs => ?_
          (conv => whnf)
          exact yes _ _ (by simp [condsB, h3, h4]) hcs
        · have h4 : numK (topS s.st 1) = false := h4
          (conv => whnf)
          exact no _ _ (by simp [condsB, h4, h2]) hcs
      · have h3 : numK (topS s.st 2) = false := h3
        (conv => whnf)
        refine splitB_f rfl ?_
        (conv => whnf)
        exact no _ _ (by simp [condsB, h3, h2]) hcs
  · repeat (first | (refine splitB_f rfl ?_; (conv => whnf)) | (refine splitB_t rfl ?_; (conv => whnf)))
    refine splitB_eq (fun h2 => ?_) (fun h2 => ?_)
    · (conv => whnf)
      refine splitB_eq (fun h1 => ?_) (fun h1 => ?_)
      · (conv => whnf)
        refine splitB_t rfl ?_
        (conv => whnf)
        refine swap_spec _ _ _ _ s 2 [4] _ (.inr rfl) (topS_pos h2 (by omega)) (by simp; omega) lo _ hcs fun lo hcs => ?_
        (conv => whnf)
        exact yes _ _ (by simp [condsB, h1, h2]) hcs
      · (conv => whnf)
        refine CallVC.pureF (vnumber_spec _) rfl ?_
        (conv => whnf)
        refine splitB_intro (fun h3 => ?_) (fun h3 => ?_)
        · have h3 : numK (topS s.st 2) = true := h3
          (conv => whnf)
          refine CallVC.pureF (vnumber_spec _) rfl ?_
          (conv => whnf)
          refine splitB_intro (fun h4 => ?_) (fun h4 => ?_)
          · have h4 : numK (topS s.st 1) = true := h4
            (conv => whnf)
            refine swap_spec _ _ _ _ s 2 [4] _ (.inr rfl) (num_pos h3) (by simp; omega) lo _ hcs fun lo hcs => ?_
            (conv => whnf)
            exact yes _ _ (by simp [condsB, h3, h4]) hcs
          · have h4 : numK (topS s.st 1) = false := h4
            (conv => whnf)
            exact no _ _ (by simp [condsB, h4, h1]) hcs
        · have h3 : numK (topS s.st 2) = false := h3
          (conv => whnf)
          refine splitB_f rfl ?_
          (conv => whnf)
          exact no _ _ (by simp [condsB, h3, h1]) hcs
    · (conv => whnf)
      refine splitB_f rfl ?_
      (conv => whnf)
      refine CallVC.pureF (vnumber_spec _) rfl ?_
      (conv => whnf)
      refine splitB_intro (fun h3 => ?_) (fun h3 => ?_)
      · have h3 : numK (topS s.st 2) = true := h3
        (conv => whnf)
        refine CallVC.pureF (vnumber_spec _) rfl ?_
        (conv => whnf)
        refine splitB_intro (fun h4 => ?_) (fun h4 => ?_)
        · have h4 : numK (topS s.st 1) = true := h4
          (conv => whnf)
          refine swap_spec _ _ _ _ s 2 [4] _ (.inr rfl) (num_pos h3) (by simp; omega) lo _ hcs fun lo hcs => ?_
          (conv => whnf)
          exact yes _ _ (by simp [condsB, h3, h4]) hcs
        · have h4 : numK (topS s.st 1) = false := h4
          (conv => whnf)
          exact no _ _ (by simp [condsB, h4, h2]) hcs
      · have h3 : numK (topS s.st 2) = false := h3
        (conv => whnf)
        refine splitB_f rfl ?_
        (conv => whnf)
        exact no _ _ (by simp [condsB, h3, h2]) hcs
  · repeat (first | (refine splitB_f rfl ?_; (conv => whnf)) | (refine splitB_t rfl ?_; (conv => whnf)))
    refine splitB_eq (fun h2 => ?_) (fun h2 => ?_)
    · (conv => whnf)
      refine splitB_eq (fun h1 => ?_) (fun h1 => ?_)
      · (conv => whnf)
        refine splitB_t rfl ?_
        (conv => whnf)
        refine swap_spec _ _ _ _ s 2 [4] _ (.inr rfl) (topS_pos h2 (by omega)) (by simp; omega) lo _ hcs fun lo hcs => ?_
        (conv => whnf)
        exact yes _ _ (by simp [condsB, h1, h2]) hcs
      · (conv => whnf)
        refine CallVC.pureF (vnumber_spec _) rfl ?_
        (conv => whnf)
        refine splitB_intro (fun h3 => ?_) (fun h3 => ?_)
        · have h3 : numK (topS s.st 2) = true := h3
          (conv => whnf)
          refine CallVC.pureF (vnumber_spec _) rfl ?_
          (conv => whnf)
          refine splitB_intro (fun h4 => ?_) (fun h4 => ?_)
          · have h4 : numK (topS s.st 1) = true := h4
            (conv => whnf)
            refine swap_spec _ _ _ _ s 2 [4] _ (.inr rfl) (num_pos h3) (by simp; omega) lo _ hcs fun lo hcs => ?_
            (conv => whnf)
            exact yes _ _ (by simp [condsB, h3, h4]) hcs
          · have h4 : numK (topS s.st 1) = false := h4
            (conv => whnf)
            exact no _ _ (by simp [condsB, h4, h1]) hcs
        · have h3 : numK (topS s.st 2) = false := h3
          (conv => whnf)
          refine splitB_f rfl ?_
          (conv => whnf)
          exact no _ _ (by simp [condsB, h3, h1]) hcs
    · (conv => whnf)
      refine splitB_f rfl ?_
      (conv => whnf)
      refine CallVC.pureF (vnumber_spec _) rfl ?_
      (conv => whnf)
      refine splitB_intro (fun h3 => ?_) (fun h3 => ?_)
      · have h3 : numK (topS s.st 2) = true := h3
        (conv => whnf)
        refine CallVC.pureF (vnumber_spec _) rfl ?_
        (conv => whnf)
        refine splitB_intro (fun h4 => ?_) (fun h4 => ?_)
        · have h4 : numK (topS s.st 1) = true := h4
          (conv => whnf)
          refine swap_spec _ _ _ _ s 2 [4] _ (.inr rfl) (num_pos h3) (by simp; omega) lo _ hcs fun lo hcs => ?_
          (conv => whnf)
          exact yes _ _ (by simp [condsB, h3, h4]) hcs
        · have h4 : numK (topS s.st 1) = false := h4
          (conv => whnf)
          exact no _ _ (by simp [condsB, h4, h2]) hcs
      · have h3 : numK (topS s.st 2) = false := h3
        (conv => whnf)
        refine splitB_f rfl ?_
        (conv => whnf)
        exact no _ _ (by simp [condsB, h3, h2]) hcs
  · repeat (first | (refine splitB_f rfl ?_; (conv => whnf)) | (refine splitB_t rfl ?_; (conv => whnf)))
    refine splitB_eq (fun h2 => ?_) (fun h2 => ?_)
    · (conv => whnf)
      refine splitB_eq (fun h1 => ?_) (fun h1 => ?_)
      · (conv => whnf)
        refine swap_spec _ _ _ _ s 2 [4] _ (.inr rfl) (topS_pos h2 (by omega)) (by simp; omega) lo _ hcs fun lo hcs => ?_
        (conv => whnf)
        exact yes _ _ (by simp [condsB, h1, h2]) hcs
      · (conv => whnf)
        exact no _ _ (by simp [condsB, h1]) hcs
    · (conv => whnf)
      refine splitB_f rfl ?_
      (conv => whnf)
      exact no _ _ (by simp [condsB, h2]) hcs
  · repeat (first | (refine splitB_f rfl ?_; (conv => whnf)) | (refine splitB_t rfl ?_; (conv => whnf)))
    exact done _ _ _ hcs (fun s'' e => by (simp [condsB] at e; exact e.2)) (by by_cases ht : topS s.st 1 = 4 <;> simp [condsB, ht])
  · repeat (first | (refine splitB_f rfl ?_; (conv => whnf)) | (refine splitB_t rfl ?_; (conv => whnf)))
    refine swap_spec _ _ _ _ s 0 [4] _ (.inr rfl) (Nat.zero_le _) (by simp; omega) lo _ hcs fun lo hcs => ?_
    (conv => whnf)
    exact yes _ _ (by simp [condsB]) hcs
  · repeat (first | (refine splitB_f rfl ?_; (conv => whnf)) | (refine splitB_t rfl ?_; (conv => whnf)))
    refine swap_spec _ _ _ _ s 0 [4] _ (.inr rfl) (Nat.zero_le _) (by simp; omega) lo _ hcs fun lo hcs => ?_
    (conv => whnf)
    exact yes _ _ (by simp [condsB]) hcs
  · repeat (first | (refine splitB_f rfl ?_; (conv => whnf)) | (refine splitB_t rfl ?_; (conv => whnf)))
    refine splitB_eq (fun h1 => ?_) (fun h1 => ?_)
    · obtain ⟨vs, stv, hv, rest, hlo, hfam⟩ := hcs.ex
      obtain ⟨lo1, s1, hc1, he1, hk1⟩ := forward_def p i a s (by omega) hpd vs stv hv rest hfam
      rw [hlo]
      (conv => whnf)
      refine ⟨⟨_, _, lo1, hk1 _ ⟨rfl, rfl, rfl⟩, ?_⟩⟩
      cases hf : forwardB p i a s with
      | none =>
        (conv => whnf)
        refine splitB_f rfl ?_
        (conv => whnf)
        exact no _ _ (by simp [condsB, h1, hf]) hc1
      | some s2 =>
        have e2 := he1 s2 hf
        subst e2
        have hs1 := forward_st hf
        (conv => whnf)
        refine splitB_t rfl ?_
        obtain ⟨lo2, hc2, hk2⟩ := swap_def _ _ _ _ s1 1 [] .nils (.inl ⟨rfl, rfl⟩) (by rw [hs1]; exact topS_pos h1 (by omega)) (by rw [hs1]; simp; omega) lo1 hc1
        (conv => whnf)
        refine ⟨⟨_, _, lo2, hk2 _ ⟨rfl, rfl, rfl⟩, ?_⟩⟩
        (conv => whnf)
        exact yes _ _ (by simp [condsB, h1, hf]) hc2
    · (conv => whnf)
      refine splitB_f rfl ?_
      (conv => whnf)
      exact no _ _ (by simp [condsB, h1]) hcs
  · repeat (first | (refine splitB_f rfl ?_; (conv => whnf)) | (refine splitB_t rfl ?_; (conv => whnf)))
    refine splitB_eq (fun h1 => ?_) (fun h1 => ?_)
    · obtain ⟨vs, stv, hv, rest, hlo, hfam⟩ := hcs.ex
      obtain ⟨lo1, s1, hc1, he1, hk1⟩ := forward_def p i a s (by omega) hpd vs stv hv rest hfam
      rw [hlo]
      (conv => whnf)
      refine ⟨⟨_, _, lo1, hk1 _ ⟨rfl, rfl, rfl⟩, ?_⟩⟩
      cases hf : forwardB p i a s with
      | none =>
        (conv => whnf)
        refine splitB_f rfl ?_
        (conv => whnf)
        exact no _ _ (by simp [condsB, h1, hf]) hc1
      | some s2 =>
        have e2 := he1 s2 hf
        subst e2
        have hs1 := forward_st hf
        (conv => whnf)
        refine splitB_t rfl ?_
        obtain ⟨lo2, hc2, hk2⟩ := swap_def _ _ _ _ s1 1 [] .nils (.inl ⟨rfl, rfl⟩) (by rw [hs1]; exact topS_pos h1 (by omega)) (by rw [hs1]; simp; omega) lo1 hc1
        (conv => whnf)
        refine ⟨⟨_, _, lo2, hk2 _ ⟨rfl, rfl, rfl⟩, ?_⟩⟩
        (conv => whnf)
        exact yes _ _ (by simp [condsB, h1, hf]) hc2
    · (conv => whnf)
      refine splitB_f rfl ?_
      (conv => whnf)
      exact no _ _ (by simp [condsB, h1]) hcs
  · repeat (first | (refine splitB_f rfl ?_; (conv => whnf)) | (refine splitB_t rfl ?_; (conv => whnf)))
    refine splitB_eq (fun h1 => ?_) (fun h1 => ?_)
    · obtain ⟨lo1, hc1, hk1⟩ := swap_def _ _ _ _ s 1 [] .nils (.inl ⟨rfl, rfl⟩) (topS_pos h1 (by omega)) (by simp; omega) lo hcs
      (conv => whnf)
      refine ⟨⟨_, _, lo1, hk1 _ ⟨rfl, rfl, rfl⟩, ?_⟩⟩
      (conv => whnf)
      refine splitB_t rfl ?_
      obtain ⟨vs, stv, hv, rest, hlo, hfam⟩ := hc1.ex
      have hsl : (s.swap 1 []).st.length ≤ s.st.length := by simp [KS.swap]
      obtain ⟨lo2, s2, hc2, he2, hk2⟩ := forward_def p i a (s.swap 1 []) (by omega) hpd vs stv hv rest hfam
      subst hlo
      (conv => whnf)
      refine ⟨⟨_, _, lo2, hk2 _ ⟨rfl, rfl, rfl⟩, ?_⟩⟩
      (conv => whnf)
      refine done _ _ _ hc2 (fun s'' e => ?_) ?_
      · have e : forwardB p i a (s.swap 1 []) = some s'' := by simpa [condsB, h1] using e
        exact he2 s'' e
      · have e : condsB p i ⟨28, a, b⟩ s = forwardB p i a (s.swap 1 []) := by simp [condsB, h1]
        rw [e]
    · (conv => whnf)
      refine splitB_f rfl ?_
      (conv => whnf)
      exact no _ _ (by simp [condsB, h1]) hcs
  · repeat (first | (refine splitB_f rfl ?_; (conv => whnf)) | (refine splitB_t rfl ?_; (conv => whnf)))
    obtain ⟨vs, stv, hv, rest, hlo, hfam⟩ := hcs.ex
    obtain ⟨lo1, s1, hc1, he1, hk1⟩ := forward_def p i a s (by omega) hpd vs stv hv rest hfam
    rw [hlo]
    (conv => whnf)
    refine ⟨⟨_, _, lo1, hk1 _ ⟨rfl, rfl, rfl⟩, ?_⟩⟩
    cases hf : forwardB p i a s with
    | none =>
      (conv => whnf)
      refine splitB_f rfl ?_
      (conv => whnf)
      exact no _ _ (by simp [condsB, hf]) hc1
    | some s2 =>
      have e2 := he1 s2 hf
      subst e2
      have hs1 := forward_st hf
      (conv => whnf)
      refine splitB_t rfl ?_
      obtain ⟨lo2, hc2, hk2⟩ := swap_def _ _ _ _ s1 0 [8 + a] (.list 1 (iP [8 + a])) (.inr rfl) (Nat.zero_le _) (by rw [hs1]; simp; omega) lo1 hc1
      (conv => whnf)
      rw [IntWalk.i64_in _ (by omega)]
      refine ⟨⟨_, _, lo2, hk2 _ ⟨rfl, rfl, rfl⟩, ?_⟩⟩
      (conv => whnf)
      exact yes _ _ (by simp [condsB, hf]) hc2
  · repeat (first | (refine splitB_f rfl ?_; (conv => whnf)) | (refine splitB_t rfl ?_; (conv => whnf)))
    refine CallVC.pureF (vmark_spec _) rfl ?_
    (conv => whnf)
    refine splitB_intro (fun h1 => ?_) (fun h1 => ?_)
    · have h1 : markK (topS s.st 1) = true := h1
      (conv => whnf)
      refine swap_spec _ _ _ _ s 1 [] _ (.inl ⟨rfl, rfl⟩) (mark_pos h1) (by simp; omega) lo _ hcs fun lo hcs => ?_
      (conv => whnf)
      exact yes _ _ (by simp [condsB, h1]) hcs
    · have h1 : markK (topS s.st 1) = false := h1
      (conv => whnf)
      exact no _ _ (by simp [condsB, h1]) hcs
  · repeat (first | (refine splitB_f rfl ?_; (conv => whnf)) | (refine splitB_t rfl ?_; (conv => whnf)))
    refine splitB_eq (fun h1 => ?_) (fun h1 => ?_)
    · (conv => whnf)
      refine swap_spec _ _ _ _ s 1 [] _ (.inl ⟨rfl, rfl⟩) (topS_pos h1 (by omega)) (by simp; omega) lo _ hcs fun lo hcs => ?_
      (conv => whnf)
      exact yes _ _ (by simp [condsB, h1]) hcs
    · (conv => whnf)
      exact no _ _ (by simp [condsB, h1]) hcs
  · repeat (first | (refine splitB_f rfl ?_; (conv => whnf)) | (refine splitB_t rfl ?_; (conv => whnf)))
    exact yes _ _ (by simp [condsB]) hcs
  · repeat (first | (refine splitB_f rfl ?_; (conv => whnf)) | (refine splitB_t rfl ?_; (conv => whnf)))
    obtain ⟨vs, stv, hv, rest, hlo, hfam⟩ := hcs.ex
    have hown := hfam.own 0 stv s.st rfl rfl
    rw [hlo] at hcs ⊢
    have fin : ∀ n : Int, n = s.st.length → K (.p (.bool (n == 0))) ba _ := fun n hn => done _ _ _ hcs (fun s'' e => by (simp [condsB] at e; exact e.2)) (by rw [hn]; by_cases ht : s.st.length = 0 <;> (first | (simp [condsB, ht]; done) | (simp [condsB, ht]; omega)))
    rcases hown with ⟨rfl, he⟩ | ⟨rfl, he⟩ | ⟨k, g, es, rfl, g2, g3, g4⟩
    · (conv => whnf)
      exact fin 0 (by rw [he]; rfl)
    · (conv => whnf)
      exact fin 0 (by rw [he]; rfl)
    · (conv => whnf)
      refine ⟨aliveK _ _ g2, ?_⟩
      (conv => whnf)
      exact fin _ rfl
  · repeat (first | (refine splitB_f rfl ?_; (conv => whnf)) | (refine splitB_t rfl ?_; (conv => whnf)))
    exact no _ _ (by simp [condsB]) hcs
  · repeat (first | (refine splitB_f rfl ?_; (conv => whnf)) | (refine splitB_t rfl ?_; (conv => whnf)))
    exact no _ _ (by simp [condsB]) hcs
  · repeat (first | (refine splitB_f rfl ?_; (conv => whnf)) | (refine splitB_t rfl ?_; (conv => whnf)))
    exact no _ _ (by simp [condsB]) hcs
  · repeat (first | (refine splitB_f rfl ?_; (conv => whnf)) | (refine splitB_t rfl ?_; (conv => whnf)))
    exact no _ _ (by simp [condsB]) hcs
  · repeat (first | (refine splitB_f rfl ?_; (conv => whnf)) | (refine splitB_t rfl ?_; (conv => whnf)))
    exact no _ _ (by simp [condsB]) hcs
end Go.Proofs.YtgdimfogijfmiaaDoor.AD

namespace Go.Proofs.YtgdimfogijfmiaaDoor.AD
open Go.Proofs
set_option linter.unusedVariables false
set_option linter.unusedSimpArgs false
set_option maxRecDepth 100000
variable {ba : List Ob}

def vlicsB (p : Pg) (x : Ins) (s : KS) : Option KS :=
  if x.op = 34 then (if vnamedB p.T x then some (s.swap 0 [6]) else none)
  else if x.op = 35 ∨ x.op = 36 then (if 1 < s.st.length then some (s.swap 1 []) else none)
  else if x.op = 37 then (if 1 ≤ x.a ∧ x.a ≤ x.b ∧ x.b ≤ s.st.length then some (s.swap (x.b - 1).toNat []) else none)
  else if x.op = 38 then (if s.st.length = 1 then some (s.swap 1 []) else none)
  else none

set_option maxHeartbeats 8000000 in
theorem vlics_spec (p : Pg) (hp : p.fits) (x : Ins) (hx1 : 1 ≤ x.op ∧ x.op ≤ 38) (hxa : 0 ≤ x.a ∧ x.a ≤ 2147483647) (hxb : 0 ≤ x.b ∧ x.b ≤ 2147483647) (s : KS) (hst : (s.st.length : Int) ≤ 1000000000) : MO p 47 [.p (insP x)] s (vlicsB p x s) := by
  intro ba lo K hcs hK
  refine CallVC.inline f47_ok ?_
  obtain ⟨o, a, b⟩ := x
  have ha : 0 ≤ a := hxa.1
  have hb : 0 ≤ b := hxb.1
  have hb' : b ≤ 2147483647 := hxb.2
  have ho : 1 ≤ o ∧ o ≤ 38 := hx1
  have done : ∀ (bb : Bool) s' lo', CP p s' lo' → (∀ s'', vlicsB p ⟨o, a, b⟩ s = some s'' → s' = s'') → bb = (vlicsB p ⟨o, a, b⟩ s).isSome → K (.p (.bool bb)) ba lo' := fun bb s' lo' h1 h2 h3 => by rw [h3]; exact hK lo' s' h1 h2
  have yes : ∀ s' lo', vlicsB p ⟨o, a, b⟩ s = some s' → CP p s' lo' → K (.p (.bool true)) ba lo' := fun s' lo' h h' => done true s' lo' h' (fun _ e => by rw [h] at e; exact Option.some.inj e) (by rw [h]; rfl)
  have no : ∀ s' lo', vlicsB p ⟨o, a, b⟩ s = none → CP p s' lo' → K (.p (.bool false)) ba lo' := fun s' lo' h h' => done false s' lo' h' (fun _ e => by rw [h] at e; cases e) (by rw [h]; rfl)
  obtain ⟨vs, stv, hv, rest, hlo, hfam⟩ := hcs.ex
  have hown := hfam.own 0 stv s.st rfl rfl
  rw [hlo] at hcs ⊢
  have hc : o = 34 ∨ o = 35 ∨ o = 36 ∨ o = 37 ∨ o = 38 ∨ o ≤ 33 := by omega
  have main : ∀ (n : Int), n = s.st.length → W Tryd.prog f47.c28 [(0, .ref (.l 1) 0), (0 + 1, .p (.agg [.int .u8 o, .int .i64 a, .int .i64 b])), (3, .p (.ptr [.int .u8 o, .int .i64 a, .int .i64 b])), (4, .p (.bool false)), (6, .ref (.l 1) 0), (7, .ref (.l 1) 0), (8, .ref (.l 1) (0 + 4)), (9, stv), (10, .p (.int .i64 n)), (5, .p (.int .i64 n))] ba ([.mapA (pkey s.pd) vs, .cells [.p (.int .u8 p.κ), .p (.list 1 (tP p.T)), .p (.list 3 (cP p.C)), .p (.int .i64 p.S), stv, .mapr (.l 0), hv, .p (.int .i64 s.hi)]] ++ rest) (endI f47 K) := fun n hn => by
    rcases hc with rfl | rfl | rfl | rfl | rfl | hc
    · (conv => whnf)
      refine splitB_t rfl ?_
      (conv => whnf)
      refine named23_spec p hp ⟨_, a, b⟩ ha s _ _ hcs fun lo hcs => ?_
      (conv => whnf)
      refine splitB_intro (fun hn => ?_) (fun hn => ?_)
      · have hn : vnamedB p.T ⟨34, a, b⟩ = true := hn
        (conv => whnf)
        refine swap_spec _ _ _ _ s 0 [6] _ (.inr rfl) (Nat.zero_le _) (by simp; omega) lo _ hcs fun lo hcs => ?_
        (conv => whnf)
        exact yes _ _ (by simp [vlicsB, hn]) hcs
      · have hn : vnamedB p.T ⟨34, a, b⟩ = false := hn
        (conv => whnf)
        exact no _ _ (by simp [vlicsB, hn]) hcs
    · (conv => whnf)
      refine splitB_f rfl ?_
      (conv => whnf)
      refine splitB_t rfl ?_
      (conv => whnf)
      refine splitB_t rfl ?_
      (conv => whnf)
      refine splitB_dec (fun h => ?_) (fun h => ?_)
      · (conv => whnf)
        refine swap_spec _ _ _ _ s 1 [] .nils (.inl ⟨rfl, rfl⟩) (by omega) (by simp; omega) _ _ hcs fun lo hcs => ?_
        (conv => whnf)
        exact yes _ _ (by simp [vlicsB]; omega) hcs
      · (conv => whnf)
        exact no _ _ (by simp [vlicsB]; omega) hcs
    · (conv => whnf)
      refine splitB_f rfl ?_
      (conv => whnf)
      refine splitB_f rfl ?_
      (conv => whnf)
      refine splitB_t rfl ?_
      (conv => whnf)
      refine splitB_dec (fun h => ?_) (fun h => ?_)
      · (conv => whnf)
        refine swap_spec _ _ _ _ s 1 [] .nils (.inl ⟨rfl, rfl⟩) (by omega) (by simp; omega) _ _ hcs fun lo hcs => ?_
        (conv => whnf)
        exact yes _ _ (by simp [vlicsB]; omega) hcs
      · (conv => whnf)
        exact no _ _ (by simp [vlicsB]; omega) hcs
    · repeat (first | (refine splitB_f rfl ?_; (conv => whnf)) | (refine splitB_t rfl ?_; (conv => whnf)) | ((conv => whnf); refine splitB_f rfl ?_; (conv => whnf)))
      refine splitB_dec (fun h1 => ?_) (fun h1 => ?_)
      · (conv => whnf)
        refine splitB_dec (fun h2 => ?_) (fun h2 => ?_)
        · (conv => whnf)
          refine splitB_dec (fun h3 => ?_) (fun h3 => ?_)
          · have e : b - 1 = ((b - 1).toNat : Int) := by omega
            (conv => whnf)
            rw [IntWalk.i64_in _ (by omega), e]
            refine swap_spec _ _ _ _ s (b - 1).toNat [] .nils (.inl ⟨rfl, rfl⟩) (by omega) (by simp; omega) _ _ hcs fun lo hcs => ?_
            (conv => whnf)
            exact yes _ _ (by simp [vlicsB]; omega) hcs
          · (conv => whnf)
            exact no _ _ (by simp [vlicsB]; omega) hcs
        · (conv => whnf)
          refine splitB_f rfl ?_
          (conv => whnf)
          exact no _ _ (by simp [vlicsB]; omega) hcs
      · (conv => whnf)
        refine splitB_f rfl ?_
        (conv => whnf)
        refine splitB_f rfl ?_
        (conv => whnf)
        exact no _ _ (by simp [vlicsB]; omega) hcs
    · repeat (first | (refine splitB_f rfl ?_; (conv => whnf)) | (refine splitB_t rfl ?_; (conv => whnf)) | ((conv => whnf); refine splitB_f rfl ?_; (conv => whnf)))
      refine splitB_eq (fun h => ?_) (fun h => ?_)
      · (conv => whnf)
        refine swap_spec _ _ _ _ s 1 [] .nils (.inl ⟨rfl, rfl⟩) (by omega) (by simp; omega) _ _ hcs fun lo hcs => ?_
        (conv => whnf)
        exact yes _ _ (by simp [vlicsB]; omega) hcs
      · (conv => whnf)
        exact no _ _ (by simp [vlicsB]; omega) hcs
    · (conv => whnf)
      refine splitB_f (by simp; omega) ?_
      (conv => whnf)
      refine splitB_f (by simp; omega) ?_
      (conv => whnf)
      refine splitB_f (by simp; omega) ?_
      (conv => whnf)
      refine splitB_f (by simp; omega) ?_
      (conv => whnf)
      refine splitB_f (by simp; omega) ?_
      (conv => whnf)
      exact no _ _ (by rw [vlicsB, if_neg (by show ¬ o = 34; omega), if_neg (by show ¬ (o = 35 ∨ o = 36); omega), if_neg (by show ¬ o = 37; omega), if_neg (by show ¬ o = 38; omega)]) hcs
  rcases hown with ⟨rfl, he⟩ | ⟨rfl, he⟩ | ⟨k, g, es, rfl, g2, g3, g4⟩
  · have m := main 0 (by rw [he]; rfl)
    conv at m => whnf
    (conv => whnf)
    exact m
  · have m := main 0 (by rw [he]; rfl)
    conv at m => whnf
    (conv => whnf)
    exact m
  · (conv => whnf)
    refine ⟨aliveK _ _ g2, ?_⟩
    have m := main _ rfl
    conv at m => whnf
    (conv => whnf)
    exact m
end Go.Proofs.YtgdimfogijfmiaaDoor.AD

namespace Go.Proofs.YtgdimfogijfmiaaDoor.AD
open Go.Proofs
set_option linter.unusedVariables false
set_option linter.unusedSimpArgs false
set_option maxRecDepth 100000
variable {ba : List Ob}

/-- What is put at the end of a list of the call's own. -/
theorem app_own {rest : List Ob} {a : AV} {l : List Int} (h : OwnL rest a l) (hl : (l.length : Int) ≤ 1073741824) (x : Int) (o0 o1 : Ob) :
    ∃ (m g : Nat) (rest' : List Ob), OwnL rest' (.view (.l m) g 1 (l.length + 1)) (l ++ [x]) ∧ (∀ k, ixV (.view (.l m) g 1 (l.length + 1)) = some k → ixV a = some k ∨ rest.length + 2 ≤ k) ∧ (∀ b m, OwnL rest b m → (∀ k, ixV b = some k → ixV a ≠ some k) → OwnL rest' b m) ∧
      (∀ (n : Nat) cs, rest[n]? = some (.cells cs) → rest'[n]? = some (.cells cs)) ∧ ∀ K : AV → List Ob → List Ob → Prop, K (.view (.l m) g 1 (l.length + 1)) ba ([o0, o1] ++ rest') → appK 1 8 a [.int .i64 x] ba ([o0, o1] ++ rest) K := by
  rcases h with ⟨rfl, rfl⟩ | ⟨rfl, rfl⟩ | ⟨k, g, es, rfl, h2, h3, h4⟩
  · refine ⟨rest.length + 2, 0, rest ++ [.buf 0 1 [.int .i64 x]], .inr (.inr ⟨rest.length, 0, [.int .i64 x], rfl, by simp, by simp, rfl⟩), fun k hk => by (cases hk; exact .inr (Nat.le_refl _)), fun b m hb _ => hb.more _, fun n cs hn => by (rw [List.getElem?_append_left (get_lt hn)]; exact hn), fun K hK => ?_⟩
    (conv => whnf)
    refine ⟨by simp [room], ?_⟩
    rw [pushK_eq]
    exact hK
  · refine ⟨rest.length + 2, 0, rest ++ [.buf 0 1 [.int .i64 x]], .inr (.inr ⟨rest.length, 0, [.int .i64 x], rfl, by simp, by simp, rfl⟩), fun k hk => by (cases hk; exact .inr (Nat.le_refl _)), fun b m hb _ => hb.more _, fun n cs hn => by (rw [List.getElem?_append_left (get_lt hn)]; exact hn), fun K hK => ?_⟩
    (conv => whnf)
    refine ⟨by simp [room], ?_⟩
    rw [pushK_eq]
    exact hK
  · have hkl := get_lt h2
    refine ⟨k + 2, g + 1, rest.set k (.buf (g + 1) 1 (iP (l ++ [x]))), .inr (.inr ⟨k, g + 1, _, by simp, by rw [List.getElem?_set_self hkl], by rw [iP_len]; exact Nat.le_refl _, by rw [← iP_len (l ++ [x])]; simp⟩), fun k' hk => by (cases hk; exact .inl rfl), fun b m hb hne => hb.set _ _ fun e => hne _ e rfl, fun n cs hn => ?_, fun K hK => ?_⟩
    · have : k ≠ n := by
        intro e
        subst e
        rw [h2] at hn
        cases hn
      rw [List.getElem?_set_ne this]; exact hn
    (conv => whnf)
    refine atK_in k _ _ _ h2 ?_
    refine ⟨⟨rfl, rfl, rfl, h3⟩, by simp [room]; omega, _, by rw [h4, show [PV.int .i64 x] = iP [x] from rfl, ← iP_append], ?_⟩
    exact setAt2 hkl hK

theorem CS.high {s : KS} {vs : List AV} {stv hv a' : AV} {rest rest' : List Ob} {l' : List Int} (hfam : Fam rest (stv :: hv :: vs) (s.st :: s.hs :: s.pd.map Prod.snd)) (hn : OwnL rest' a' l') (hx : ∀ k, ixV a' = some k → ixV hv = some k ∨ rest.length + 2 ≤ k)
    (hk : ∀ b l, OwnL rest b l → (∀ k, ixV b = some k → ixV hv ≠ some k) → OwnL rest' b l) : Fam rest' (stv :: a' :: vs) (s.st :: l' :: s.pd.map Prod.snd) :=
  hfam.put 1 rfl hn hx hk

theorem setLast (rest : List Ob) (o v : Ob) : (rest ++ [o]).set rest.length v = rest ++ [v] := by
  rw [List.set_append_right _ _ (Nat.le_refl _), Nat.sub_self]; rfl

def endOp (x : Ins) : Bool := decide (x.op = 33) || decide (x.op = 38)
def goB (p : Pg) (i : Int) (x : Ins) (s : KS) : Option KS := if p.κ = 1 then condsB p i x s else vlicsB p x s
def tailB (p : Pg) (i : Int) (s : KS) : Option KS := match p.C[i.toNat]? with
  | none => none
  | some x =>
    if endOp x ≠ decide (i = (p.C.length : Int) - 1) ∨ riskyB x.op s.st = true then none
    else match goB p i x { s with hs := s.hs ++ [(s.st.length : Int)] } with
      | none => none
      | some s' => if (s'.st.length : Int) ≤ p.S then some { s' with hi := if (s'.st.length : Int) > s'.hi then s'.st.length else s'.hi } else none

set_option maxHeartbeats 8000000 in
theorem tail_spec (p : Pg) (hp : p.fits) (hC : p.C.all insOk = true) (i : Int) (hi : 0 ≤ i ∧ i < p.C.length) (s : KS) (hst : (s.st.length : Int) ≤ 1000000000) (hhs : (s.hs.length : Int) ≤ 1000000000) (hpd : ∀ q, q ∈ s.pd → (q.2.length : Int) ≤ 1073741824) (lo : List Ob) (hcs : CP p s lo) (K : AV → List Ob → List Ob → Prop)
    (hK : ∀ lo' s', CP p s' lo' → (∀ s'', tailB p i s = some s'' → s' = s'') → K (.p (.bool (tailB p i s).isSome)) ba lo') :
    W Tryd.prog f35.c31 [(0, .ref (.l 1) 0), (1, .p (.int .i64 i)), (2, .p (.bool true))] ba lo (endI f35 K) := by
  obtain ⟨x, hx⟩ : ∃ x, p.C[i.toNat]? = some x := ⟨_, List.getElem?_eq_getElem (by omega)⟩
  have hok : insOk x = true := List.all_eq_true.1 hC x (List.mem_of_getElem? hx)
  have ht : tailB p i s = if endOp x ≠ decide (i = (p.C.length : Int) - 1) ∨ riskyB x.op s.st = true then none
    else match goB p i x { s with hs := s.hs ++ [(s.st.length : Int)] } with
      | none => none
      | some s' => if (s'.st.length : Int) ≤ p.S then some { s' with hi := if (s'.st.length : Int) > s'.hi then s'.st.length else s'.hi } else none := by rw [tailB, hx]
  have no : ∀ s' lo', tailB p i s = none → CP p s' lo' → K (.p (.bool false)) ba lo' := fun s' lo' h h' => by
    have := hK lo' s' h' (fun _ e => by rw [h] at e; cases e)
    rw [h] at this
    exact this
  have hop : 1 ≤ x.op ∧ x.op ≤ 38 := by simp [insOk] at hok; exact ⟨hok.1.1.1.1.1, hok.1.1.1.1.2⟩
  have hxa : 0 ≤ x.a ∧ x.a ≤ 2147483647 := by simp [insOk, fitsB] at hok; exact hok.1.1.1.2
  have hxb : 0 ≤ x.b ∧ x.b ≤ 2147483647 := by simp [insOk, fitsB] at hok; exact hok.1.1.2
  obtain ⟨vs, stv, hv, rest, hlo, hfam⟩ := hcs.ex
  have hos := hfam.own 0 stv s.st rfl rfl
  have hoh := hfam.own 1 hv s.hs rfl rfl
  rw [hlo] at hcs ⊢
  have hcl := cP_len p.C
  have hcb := hp.cl
  (conv => whnf)
  refine ⟨rfl, insP x, ⟨hi.1, cP_get hx⟩, ?_⟩
  (conv => whnf)
  rw [pushK_eq, show ([] : List Ob).append rest = rest from rfl]
  (conv => whnf)
  refine atK_in _ _ _ (.cells [.p (.int .u8 0), .p (.int .i64 0), .p (.int .i64 0)]) (by simp) ?_
  (conv => whnf)
  refine setAtK_in _ _ _ _ (by simp) ?_
  rw [setLast]
  have hxl : (rest ++ [.cells [.p (.int .u8 x.op), .p (.int .i64 x.a), .p (.int .i64 x.b)]])[rest.length]? = some (.cells [.p (.int .u8 x.op), .p (.int .i64 x.a), .p (.int .i64 x.b)]) := by simp
  have hfam1 := hfam.more [.cells [.p (.int .u8 x.op), .p (.int .i64 x.a), .p (.int .i64 x.b)]]
  generalize hrest1 : rest ++ [.cells [.p (.int .u8 x.op), .p (.int .i64 x.a), .p (.int .i64 x.b)]] = rest1 at *
  generalize hn1 : rest.length = n1 at *
  have hcs1 : CP p s ([.mapA (pkey s.pd) vs, .cells [.p (.int .u8 p.κ), .p (.list 1 (tP p.T)), .p (.list 3 (cP p.C)), .p (.int .i64 p.S), stv, .mapr (.l 0), hv, .p (.int .i64 s.hi)]] ++ rest1) := ⟨vs, stv, hv, rest1, rfl, hfam1⟩
  have hos1 := hfam1.own 0 stv s.st rfl rfl
  have hoh1 := hfam1.own 1 hv s.hs rfl rfl
  have main : ∀ e : Bool, e = endOp x → W Tryd.prog f35.c29 [(0, .ref (.l 1) 0), (1, .p (.int .i64 i)), (2, .p (.bool true)), (9, .ref (.l (n1 + 1 + 1)) 0), (10, .p (.bool e))] ba ([.mapA (pkey s.pd) vs, .cells [.p (.int .u8 p.κ), .p (.list 1 (tP p.T)), .p (.list 3 (cP p.C)), .p (.int .i64 p.S), stv, .mapr (.l 0), hv, .p (.int .i64 s.hi)]] ++ rest1) (endI f35 K) := fun e he => by
    (conv => whnf)
    refine splitB_f rfl ?_
    (conv => whnf)
    rw [IntWalk.i64_in _ (by omega)]
    refine splitB_intro (fun hb => ?_) (fun hb => ?_)
    · have hb : (!(e == decide (i = ((cP p.C).length : Int) - 1))) = true := hb
      have hbad : endOp x ≠ decide (i = (p.C.length : Int) - 1) := fun h => by
        rw [he, h, hcl] at hb
        simp at hb
      (conv => whnf)
      refine splitB_t rfl ?_
      (conv => whnf)
      exact no s _ (by rw [ht, if_pos (.inl hbad)]) hcs1
    · have hb : (!(e == decide (i = ((cP p.C).length : Int) - 1))) = false := hb
      have hgood : endOp x = decide (i = (p.C.length : Int) - 1) := by
        rw [he, hcl] at hb
        simpa using hb
      (conv => whnf)
      refine atK_in _ _ _ _ hxl ?_
      (conv => whnf)
      refine risky_keep p x.op s (by omega) vs stv hv rest1 _ hfam1 ?_
      (conv => whnf)
      refine splitB_intro (fun hr => ?_) (fun hr => ?_)
      · have hr : riskyB x.op s.st = true := hr
        (conv => whnf)
        exact no s _ (by rw [ht, if_pos (.inr hr)]) hcs1
      · have hr : riskyB x.op s.st = false := hr
        have ht2 : tailB p i s = match goB p i x { s with hs := s.hs ++ [(s.st.length : Int)] } with
      | none => none
      | some s' => if (s'.st.length : Int) ≤ p.S then some { s' with hi := if (s'.st.length : Int) > s'.hi then s'.st.length else s'.hi } else none := by
          rw [ht, if_neg (fun e => e.elim (fun h => h hgood) (fun h => by rw [hr] at h; cases h))]
        (conv => whnf)
        have after : ∀ (bb : Bool) (s' : KS) (lo' : List Ob), bb = (goB p i x { s with hs := s.hs ++ [(s.st.length : Int)] }).isSome → (∀ s'', goB p i x { s with hs := s.hs ++ [(s.st.length : Int)] } = some s'' → s' = s'') → CP p s' lo' →
            W Tryd.prog f35.c25 [(0, .ref (.l 1) 0), (11, .p (.bool bb))] ba lo' (endI f35 K) := fun bb s' lo' hbb hs' hc' => by
          obtain ⟨vs, stv, hv, rest, hlo, hfam⟩ := hc'.ex
          have hos := hfam.own 0 stv s'.st rfl rfl
          have hcn : CP p { s' with hi := if (s'.st.length : Int) > s'.hi then s'.st.length else s'.hi } ([.mapA (pkey s'.pd) vs, .cells [.p (.int .u8 p.κ), .p (.list 1 (tP p.T)), .p (.list 3 (cP p.C)), .p (.int .i64 p.S), stv, .mapr (.l 0), hv, .p (.int .i64 (if (s'.st.length : Int) > s'.hi then s'.st.length else s'.hi))]] ++ rest) := ⟨vs, stv, hv, rest, rfl, hfam⟩
          have fin : ∀ c : Bool, c = (bb && decide ((s'.st.length : Int) ≤ p.S)) → K (.p (.bool c)) ba ([.mapA (pkey s'.pd) vs, .cells [.p (.int .u8 p.κ), .p (.list 1 (tP p.T)), .p (.list 3 (cP p.C)), .p (.int .i64 p.S), stv, .mapr (.l 0), hv, .p (.int .i64 (if (s'.st.length : Int) > s'.hi then s'.st.length else s'.hi))]] ++ rest) := fun c hc => by
            have := hK _ _ hcn
            cases hg : goB p i x { s with hs := s.hs ++ [(s.st.length : Int)] } with
            | none =>
              rw [hg] at ht2 hbb
              rw [hc, hbb]
              have h := this (fun _ e => by rw [ht2] at e; cases e)
              rw [ht2] at h
              exact h
            | some s1 =>
              rw [hg] at ht2 hbb
              have e1 := hs' s1 hg
              subst e1
              rw [hc, hbb]
              by_cases hl : (s'.st.length : Int) ≤ p.S
              · have ht3 : tailB p i s = some { s' with hi := if (s'.st.length : Int) > s'.hi then s'.st.length else s'.hi } := by rw [ht2]; exact if_pos hl
                have h := this (fun _ e => by rw [ht3] at e; exact Option.some.inj e)
                rw [ht3] at h
                rw [decide_eq_true hl]
                exact h
              · have ht3 : tailB p i s = none := by rw [ht2]; exact if_neg hl
                have h := this (fun _ e => by rw [ht3] at e; cases e)
                rw [ht3] at h
                rw [decide_eq_false hl]
                exact h
          rw [hlo]
          clear hlo hcn
          rcases hos with ⟨rfl, he⟩ | ⟨rfl, he⟩ | ⟨k, g, es, rfl, g2, g3, g4⟩
          · rw [he] at fin
            (conv => whnf)
            refine splitB_intro (fun hb => ?_) (fun hb => ?_)
            · have hb : bb = true := hb
              (conv => whnf)
              exact fin _ (by rw [hb]; rfl)
            · have hb : bb = false := hb
              (conv => whnf)
              exact fin _ (by rw [hb]; rfl)
          · rw [he] at fin
            (conv => whnf)
            refine splitB_intro (fun hb => ?_) (fun hb => ?_)
            · have hb : bb = true := hb
              (conv => whnf)
              exact fin _ (by rw [hb]; rfl)
            · have hb : bb = false := hb
              (conv => whnf)
              exact fin _ (by rw [hb]; rfl)
          · (conv => whnf)
            refine ⟨aliveK _ _ g2, ?_⟩
            (conv => whnf)
            refine splitB_intro (fun hb => ?_) (fun hb => ?_)
            · have hb : bb = true := hb
              (conv => whnf)
              refine ⟨aliveK _ _ g2, ?_⟩
              (conv => whnf)
              exact fin _ (by rw [hb]; rfl)
            · have hb : bb = false := hb
              (conv => whnf)
              exact fin _ (by rw [hb]; rfl)
        rcases hos1 with ⟨rfl, he0⟩ | ⟨rfl, he0⟩ | ⟨k, g, es, rfl, g2, g3, g4⟩
        · have hn : (0 : Int) = s.st.length := by rw [he0]; rfl
          (conv => whnf)
          obtain ⟨m2, g2', rest2, ho2, hx2, hk2, hc2, happ⟩ := app_own hoh1 (by omega) 0 (.mapA (pkey s.pd) vs) (.cells [.p (.int .u8 p.κ), .p (.list 1 (tP p.T)), .p (.list 3 (cP p.C)), .p (.int .i64 p.S), .p .nils, .mapr (.l 0), hv, .p (.int .i64 s.hi)])
          have ho3 : OwnL rest2 (.view (.l m2) g2' 1 (s.hs.length + 1)) (s.hs ++ [(s.st.length : Int)]) := by rw [← hn]; exact ho2
          have hfam2 := CS.high hfam1 ho3 hx2 hk2
          have hxl2 := hc2 _ _ hxl
          refine ⟨rfl, happ _ ?_⟩
          (conv => whnf)
          have hcs2 : CP p { s with hs := s.hs ++ [(s.st.length : Int)] } ([.mapA (pkey s.pd) vs, .cells [.p (.int .u8 p.κ), .p (.list 1 (tP p.T)), .p (.list 3 (cP p.C)), .p (.int .i64 p.S), .p .nils, .mapr (.l 0), .view (.l m2) g2' 1 (s.hs.length + 1), .p (.int .i64 s.hi)]] ++ rest2) := ⟨vs, .p .nils, _, rest2, rfl, hfam2⟩
          by_cases hκ : p.κ = 1
          · refine splitB_t (by simp [hκ]) ?_
            (conv => whnf)
            refine atK_in _ _ _ _ hxl2 ?_
            (conv => whnf)
            refine conds_spec p hp i x hop hxa { s with hs := s.hs ++ [(s.st.length : Int)] } hst hpd _ _ hcs2 fun lo' s' h1 h2 => ?_
            have m := after _ s' lo' (by rw [goB, if_pos hκ]) (by rw [goB, if_pos hκ]; exact h2) h1
            conv at m => whnf
            (conv => whnf)
            exact m
          · refine splitB_f (by simp [hκ]) ?_
            (conv => whnf)
            refine atK_in _ _ _ _ hxl2 ?_
            (conv => whnf)
            refine vlics_spec p hp x hop hxa hxb { s with hs := s.hs ++ [(s.st.length : Int)] } hst _ _ hcs2 fun lo' s' h1 h2 => ?_
            have m := after _ s' lo' (by rw [goB, if_neg hκ]) (by rw [goB, if_neg hκ]; exact h2) h1
            conv at m => whnf
            (conv => whnf)
            exact m
        · have hn : (0 : Int) = s.st.length := by rw [he0]; rfl
          (conv => whnf)
          obtain ⟨m2, g2', rest2, ho2, hx2, hk2, hc2, happ⟩ := app_own hoh1 (by omega) 0 (.mapA (pkey s.pd) vs) (.cells [.p (.int .u8 p.κ), .p (.list 1 (tP p.T)), .p (.list 3 (cP p.C)), .p (.int .i64 p.S), .p .emp, .mapr (.l 0), hv, .p (.int .i64 s.hi)])
          have ho3 : OwnL rest2 (.view (.l m2) g2' 1 (s.hs.length + 1)) (s.hs ++ [(s.st.length : Int)]) := by rw [← hn]; exact ho2
          have hfam2 := CS.high hfam1 ho3 hx2 hk2
          have hxl2 := hc2 _ _ hxl
          refine ⟨rfl, happ _ ?_⟩
          (conv => whnf)
          have hcs2 : CP p { s with hs := s.hs ++ [(s.st.length : Int)] } ([.mapA (pkey s.pd) vs, .cells [.p (.int .u8 p.κ), .p (.list 1 (tP p.T)), .p (.list 3 (cP p.C)), .p (.int .i64 p.S), .p .emp, .mapr (.l 0), .view (.l m2) g2' 1 (s.hs.length + 1), .p (.int .i64 s.hi)]] ++ rest2) := ⟨vs, .p .emp, _, rest2, rfl, hfam2⟩
          by_cases hκ : p.κ = 1
          · refine splitB_t (by simp [hκ]) ?_
            (conv => whnf)
            refine atK_in _ _ _ _ hxl2 ?_
            (conv => whnf)
            refine conds_spec p hp i x hop hxa { s with hs := s.hs ++ [(s.st.length : Int)] } hst hpd _ _ hcs2 fun lo' s' h1 h2 => ?_
            have m := after _ s' lo' (by rw [goB, if_pos hκ]) (by rw [goB, if_pos hκ]; exact h2) h1
            conv at m => whnf
            (conv => whnf)
            exact m
          · refine splitB_f (by simp [hκ]) ?_
            (conv => whnf)
            refine atK_in _ _ _ _ hxl2 ?_
            (conv => whnf)
            refine vlics_spec p hp x hop hxa hxb { s with hs := s.hs ++ [(s.st.length : Int)] } hst _ _ hcs2 fun lo' s' h1 h2 => ?_
            have m := after _ s' lo' (by rw [goB, if_neg hκ]) (by rw [goB, if_neg hκ]; exact h2) h1
            conv at m => whnf
            (conv => whnf)
            exact m
        · have hn : (s.st.length : Int) = s.st.length := rfl
          (conv => whnf)
          obtain ⟨m2, g2', rest2, ho2, hx2, hk2, hc2, happ⟩ := app_own hoh1 (by omega) s.st.length (.mapA (pkey s.pd) vs) (.cells [.p (.int .u8 p.κ), .p (.list 1 (tP p.T)), .p (.list 3 (cP p.C)), .p (.int .i64 p.S), .view (.l (k + 2)) g 1 s.st.length, .mapr (.l 0), hv, .p (.int .i64 s.hi)])
          have ho3 : OwnL rest2 (.view (.l m2) g2' 1 (s.hs.length + 1)) (s.hs ++ [(s.st.length : Int)]) := by rw [← hn]; exact ho2
          have hfam2 := CS.high hfam1 ho3 hx2 hk2
          have hxl2 := hc2 _ _ hxl
          refine ⟨aliveK _ _ g2, ?_⟩
          (conv => whnf)
          refine ⟨rfl, happ _ ?_⟩
          (conv => whnf)
          have hcs2 : CP p { s with hs := s.hs ++ [(s.st.length : Int)] } ([.mapA (pkey s.pd) vs, .cells [.p (.int .u8 p.κ), .p (.list 1 (tP p.T)), .p (.list 3 (cP p.C)), .p (.int .i64 p.S), .view (.l (k + 2)) g 1 s.st.length, .mapr (.l 0), .view (.l m2) g2' 1 (s.hs.length + 1), .p (.int .i64 s.hi)]] ++ rest2) := ⟨vs, .view (.l (k + 2)) g 1 s.st.length, _, rest2, rfl, hfam2⟩
          by_cases hκ : p.κ = 1
          · refine splitB_t (by simp [hκ]) ?_
            (conv => whnf)
            refine atK_in _ _ _ _ hxl2 ?_
            (conv => whnf)
            refine conds_spec p hp i x hop hxa { s with hs := s.hs ++ [(s.st.length : Int)] } hst hpd _ _ hcs2 fun lo' s' h1 h2 => ?_
            have m := after _ s' lo' (by rw [goB, if_pos hκ]) (by rw [goB, if_pos hκ]; exact h2) h1
            conv at m => whnf
            (conv => whnf)
            exact m
          · refine splitB_f (by simp [hκ]) ?_
            (conv => whnf)
            refine atK_in _ _ _ _ hxl2 ?_
            (conv => whnf)
            refine vlics_spec p hp x hop hxa hxb { s with hs := s.hs ++ [(s.st.length : Int)] } hst _ _ hcs2 fun lo' s' h1 h2 => ?_
            have m := after _ s' lo' (by rw [goB, if_neg hκ]) (by rw [goB, if_neg hκ]; exact h2) h1
            conv at m => whnf
            (conv => whnf)
            exact m
  (conv => whnf)
  refine atK_in _ _ _ _ hxl ?_
  (conv => whnf)
  refine splitB_eq (fun h => ?_) (fun h => ?_)
  · have m := main true (by rw [endOp, decide_eq_true h]; rfl)
    conv at m => whnf
    (conv => whnf)
    exact m
  · (conv => whnf)
    refine atK_in _ _ _ _ hxl ?_
    have m := main (x.op == 38) (by rw [endOp, decide_eq_false h, Bool.false_or]; rfl)
    conv at m => whnf
    (conv => whnf)
    exact m
end Go.Proofs.YtgdimfogijfmiaaDoor.AD

namespace Go.Proofs.YtgdimfogijfmiaaDoor.AD
open Go.Proofs
set_option linter.unusedVariables false
set_option linter.unusedSimpArgs false
set_option maxRecDepth 100000
variable {ba : List Ob}

def stepB (p : Pg) (i : Int) (s : KS) : Option KS :=
  match (pidx i s.pd).bind fun j => (s.pd[j]?).map fun q => (j, q.2) with
  | none => tailB p i s
  | some (j, l) => if l ≠ s.st ∨ l = [0] then none else tailB p i { s with st := l, pd := s.pd.eraseIdx j }

theorem Fam.erase {rest : List Ob} {a b v : AV} {vs : List AV} {l m l' : List Int} {ls : List (List Int)} (h : Fam rest (a :: b :: vs) (l :: m :: ls)) (j : Nat) (hv : vs[j]? = some v) (hl : ls[j]? = some l') : Fam rest (v :: b :: vs.eraseIdx j) (l' :: m :: ls.eraseIdx j) := by
  have hlen : vs.length = ls.length := by simpa using h.len
  have hj := get_lt hv
  have e1 := List.length_eraseIdx_of_lt hj
  have e2 := List.length_eraseIdx_of_lt (get_lt hl)
  refine h.pick (fun n => if n = 0 then j + 2 else if n = 1 then 1 else if n < j + 2 then n else n + 1) ?_ (by simp [e1, e2, hlen]) ?_ ?_
  · intro x y hx hy hxy
    (repeat' split at hxy) <;> omega
  · intro n hn
    rcases n with _ | _ | n
    · simp [hv]
    · simp
    · simp only [List.getElem?_cons_succ, List.getElem?_eraseIdx]
      by_cases h1 : n < j
      · rw [if_pos h1, if_neg (by omega), if_neg (by omega), if_pos (by omega)]; rfl
      · rw [if_neg h1, if_neg (by omega), if_neg (by omega), if_neg (by omega)]; rfl
  · intro n hn
    rcases n with _ | _ | n
    · simp [hl]
    · simp
    · simp only [List.getElem?_cons_succ, List.getElem?_eraseIdx]
      by_cases h1 : n < j
      · rw [if_pos h1, if_neg (by omega), if_neg (by omega), if_pos (by omega)]; rfl
      · rw [if_neg h1, if_neg (by omega), if_neg (by omega), if_neg (by omega)]; rfl

theorem eraseIdx_map {α β : Type} (f : α → β) : ∀ (l : List α) (j : Nat), (l.eraseIdx j).map f = (l.map f).eraseIdx j
  | [], j => rfl
  | x :: r, 0 => rfl
  | x :: r, j + 1 => by
    show f x :: (r.eraseIdx j).map f = _
    rw [eraseIdx_map f r j]; rfl

set_option maxHeartbeats 8000000 in
theorem step_spec (p : Pg) (hp : p.fits) (hC : p.C.all insOk = true) (i : Int) (hi : 0 ≤ i ∧ i < p.C.length) (s : KS) (hst : (s.st.length : Int) ≤ 1000000000) (hhs : (s.hs.length : Int) ≤ 1000000000) (hpd : ∀ q, q ∈ s.pd → (q.2.length : Int) ≤ 1000000000) :
    MO p 35 [.p (.int .i64 i), .p (.bool true)] s (stepB p i s) := by
  intro ba lo K hcs hK
  obtain ⟨vs, stv, hv, rest, hlo, hfam⟩ := hcs.ex
  have hos := hfam.own 0 stv s.st rfl rfl
  have hvl : vs.length = s.pd.length := by simpa using hfam.len
  have hget := afind_pd i s.pd vs hvl
  have hdel := adel_pd i s.pd vs hvl
  have hpd2 : ∀ q, q ∈ s.pd → (q.2.length : Int) ≤ 1073741824 := fun q hq => by have := hpd q hq; omega
  refine CallVC.inline f35_ok ?_
  cases hx : pidx i s.pd with
  | none =>
    have hs : stepB p i s = tailB p i s := by rw [stepB, hx]; rfl
    rw [hx] at hget
    rw [hs] at hK
    have m := tail_spec p hp hC i hi s hst hhs hpd2 lo hcs K hK
    rw [hlo] at m ⊢
    conv at m => whnf
    (conv => whnf)
    refine ⟨rfl, _, hget, ?_⟩
    (conv => whnf)
    refine splitB_f rfl ?_
    (conv => whnf)
    exact m
  | some j =>
    obtain ⟨hj, l, hl2⟩ := pidx_lt hx
    obtain ⟨v, hv1⟩ : ∃ v, vs[j]? = some v := ⟨_, List.getElem?_eq_getElem (by omega)⟩
    have hb : ((some j).bind fun j => vs[j]?) = some v := hv1
    have hov : OwnL rest v l := hfam.own (j + 2) v l (by simpa using hv1) (by simp [hl2])
    have hll : (l.length : Int) ≤ 1000000000 := hpd _ (List.mem_of_getElem? hl2)
    simp only [hx] at hget hdel
    rw [hb] at hget
    have hs : stepB p i s = if l ≠ s.st ∨ l = [0] then none else tailB p i { s with st := l, pd := s.pd.eraseIdx j } := by
      have : ((pidx i s.pd).bind fun j => (s.pd[j]?).map fun q => (j, q.2)) = some (j, l) := by rw [hx]; show (s.pd[j]?).map _ = _; rw [hl2]; rfl
      rw [stepB, this]
    have no : (l ≠ s.st ∨ l = [0]) → K (.p (.bool false)) ba lo := fun h => by
      have h2 : stepB p i s = none := by rw [hs, if_pos h]
      have := hK lo s hcs (fun _ e => by rw [h2] at e; cases e)
      rw [h2] at this
      exact this
    have hfam2 := hfam.erase j hv1 (l' := l) (by simp [hl2])
    have hcs2 : CP p { s with st := l, pd := s.pd.eraseIdx j } ([.mapA (pkey (s.pd.eraseIdx j)) (vs.eraseIdx j), .cells [.p (.int .u8 p.κ), .p (.list 1 (tP p.T)), .p (.list 3 (cP p.C)), .p (.int .i64 p.S), v, .mapr (.l 0), hv, .p (.int .i64 s.hi)]] ++ rest) := ⟨vs.eraseIdx j, v, hv, rest, rfl, by rw [eraseIdx_map]; exact hfam2⟩
    have yes : ¬(l ≠ s.st ∨ l = [0]) → W Tryd.prog f35.c31 [(0, .ref (.l 1) 0), (1, .p (.int .i64 i)), (2, .p (.bool true))] ba ([.mapA (pkey (s.pd.eraseIdx j)) (vs.eraseIdx j), .cells [.p (.int .u8 p.κ), .p (.list 1 (tP p.T)), .p (.list 3 (cP p.C)), .p (.int .i64 p.S), v, .mapr (.l 0), hv, .p (.int .i64 s.hi)]] ++ rest) (endI f35 K) := fun h => by
      rw [hs, if_neg h] at hK
      exact tail_spec p hp hC i hi { s with st := l, pd := s.pd.eraseIdx j } hll hhs (fun q hq => hpd2 q (List.mem_of_mem_eraseIdx hq)) _ hcs2 K hK
    rw [hlo] at no ⊢
    clear hs hlo hcs hcs2 hK
    rcases hov with ⟨rfl, he⟩ | ⟨rfl, he⟩ | ⟨k, g, es, rfl, g2, g3, g4⟩
    · (conv => whnf)
      refine ⟨rfl, _, hget, ?_⟩
      (conv => whnf)
      refine splitB_t rfl ?_
      (conv => whnf)
      refine splitB_t rfl ?_
      (conv => whnf)
      refine equal_lend (.inl ⟨rfl, he⟩) hos (by omega) (by omega) ba _ _ ?_
      (conv => whnf)
      refine splitB_intro (fun hq => ?_) (fun hq => ?_)
      · have hq : l ≠ s.st := by simpa using hq
        (conv => whnf)
        refine splitB_t rfl ?_
        (conv => whnf)
        exact no (.inl hq)
      · have hq : l = s.st := by simpa using hq
        have m := yes (fun h => h.elim (fun h => h hq) (fun h => by rw [he] at h; cases h))
        conv at m => whnf
        (conv => whnf)
        refine splitB_f rfl ?_
        (conv => whnf)
        refine splitB_f rfl ?_
        (conv => whnf)
        refine ⟨rfl, _, hdel, ?_⟩
        (conv => whnf)
        exact m
    · (conv => whnf)
      refine ⟨rfl, _, hget, ?_⟩
      (conv => whnf)
      refine splitB_t rfl ?_
      (conv => whnf)
      refine splitB_t rfl ?_
      (conv => whnf)
      refine equal_lend (.inr (.inl ⟨rfl, he⟩)) hos (by omega) (by omega) ba _ _ ?_
      (conv => whnf)
      refine splitB_intro (fun hq => ?_) (fun hq => ?_)
      · have hq : l ≠ s.st := by simpa using hq
        (conv => whnf)
        refine splitB_t rfl ?_
        (conv => whnf)
        exact no (.inl hq)
      · have hq : l = s.st := by simpa using hq
        have m := yes (fun h => h.elim (fun h => h hq) (fun h => by rw [he] at h; cases h))
        conv at m => whnf
        (conv => whnf)
        refine splitB_f rfl ?_
        (conv => whnf)
        refine splitB_f rfl ?_
        (conv => whnf)
        refine ⟨rfl, _, hdel, ?_⟩
        (conv => whnf)
        exact m
    · (conv => whnf)
      refine ⟨rfl, _, hget, ?_⟩
      (conv => whnf)
      refine splitB_t rfl ?_
      (conv => whnf)
      refine splitB_t rfl ?_
      (conv => whnf)
      refine equal_lend (.inr (.inr ⟨k, g, es, rfl, g2, g3, g4⟩)) hos (by omega) (by omega) ba _ _ ?_
      (conv => whnf)
      refine splitB_intro (fun hq => ?_) (fun hq => ?_)
      · have hq : l ≠ s.st := by simpa using hq
        (conv => whnf)
        refine splitB_t rfl ?_
        (conv => whnf)
        exact no (.inl hq)
      · have hq : l = s.st := by simpa using hq
        (conv => whnf)
        refine ⟨aliveK _ _ g2, ?_⟩
        (conv => whnf)
        by_cases h1 : l.length = 1
        · obtain ⟨y, hy⟩ : ∃ y, l = [y] := by
            match l, h1 with
            | [y], _ => exact ⟨y, rfl⟩
          have hg := ownGet g4 (i := 0) (by omega)
          rw [hy] at hg
          refine splitB_t (by simp [h1]) ?_
          (conv => whnf)
          refine ⟨⟨rfl, by omega, by omega⟩, aliveK _ _ g2, ?_⟩
          (conv => whnf)
          refine atK_in _ _ _ _ g2 ?_
          refine ⟨⟨rfl, rfl⟩, .int .i64 y, hg, ?_⟩
          (conv => whnf)
          refine splitB_eq (fun h0 => ?_) (fun h0 => ?_)
          · (conv => whnf)
            exact no (.inr (by rw [hy, h0]))
          · have m := yes (fun h => h.elim (fun h => h hq) (fun h => by rw [hy] at h; simp at h; exact h0 h))
            conv at m => whnf
            (conv => whnf)
            refine ⟨rfl, _, hdel, ?_⟩
            (conv => whnf)
            exact m
        · have m := yes (fun h => h.elim (fun h => h hq) (fun h => by rw [h] at h1; exact h1 rfl))
          conv at m => whnf
          refine splitB_f (by simp; omega) ?_
          (conv => whnf)
          refine splitB_f rfl ?_
          (conv => whnf)
          refine ⟨rfl, _, hdel, ?_⟩
          (conv => whnf)
          exact m
end Go.Proofs.YtgdimfogijfmiaaDoor.AD

namespace Go.Proofs.YtgdimfogijfmiaaDoor.AD
open Go.Proofs
set_option linter.unusedVariables false
set_option linter.unusedSimpArgs false
set_option maxRecDepth 100000

/-- What is pending at a place. -/
def pfind (k : Int) : List (Int × List Int) → Option (List Int)
  | [] => none
  | q :: r => if q.1 = k then some q.2 else pfind k r
theorem pfind_at {k : Int} : ∀ {pd : List (Int × List Int)}, (pidx k pd = none ∧ pfind k pd = none) ∨ ∃ j l, pidx k pd = some j ∧ pd[j]? = some (k, l) ∧ pfind k pd = some l
  | [] => .inl ⟨rfl, rfl⟩
  | q :: r => by
    unfold pidx pfind
    by_cases e : q.1 = k
    · rw [if_pos e, if_pos e]
      exact .inr ⟨0, q.2, rfl, by rw [← e]; rfl, rfl⟩
    · rw [if_neg e, if_neg e]
      rcases pfind_at (k := k) (pd := r) with ⟨h1, h2⟩ | ⟨j, l, h1, h2, h3⟩
      · exact .inl ⟨by rw [h1]; rfl, h2⟩
      · exact .inr ⟨j + 1, l, by rw [h1]; rfl, by simpa using h2, h3⟩
theorem pfind_append {k : Int} {l : List Int} : ∀ {pd : List (Int × List Int)} (X : List (Int × List Int)), pfind k pd = some l → pfind k (pd ++ X) = some l
  | [], X, h => by cases h
  | q :: r, X, h => by
    rw [List.cons_append]
    unfold pfind at h ⊢
    by_cases e : q.1 = k
    · rw [if_pos e] at h ⊢; exact h
    · rw [if_neg e] at h ⊢; exact pfind_append X h
theorem pfind_new {k : Int} {l : List Int} : ∀ {pd : List (Int × List Int)}, pfind k pd = none → pfind k (pd ++ [(k, l)]) = some l
  | [], h => by simp [pfind]
  | q :: r, h => by
    rw [List.cons_append]
    unfold pfind at h ⊢
    by_cases e : q.1 = k
    · rw [if_pos e] at h; cases h
    · rw [if_neg e] at h ⊢; exact pfind_new h
theorem pfind_set {k to : Int} {m : List Int} : ∀ {pd : List (Int × List Int)} {j : Nat}, pidx to pd = some j → pfind k (pd.set j (to, m)) = if to = k then some m else pfind k pd
  | [], j, h => by cases h
  | q :: r, j, h => by
    unfold pidx at h
    by_cases e : q.1 = to
    · rw [if_pos e] at h
      cases h
      show pfind k ((to, m) :: r) = _
      unfold pfind
      by_cases e2 : to = k
      · rw [if_pos e2, if_pos e2]
      · rw [if_neg e2, if_neg e2, if_neg (by rw [e]; exact e2)]
    · rw [if_neg e] at h
      obtain ⟨i, hi, rfl⟩ := Option.map_eq_some_iff.1 h
      show pfind k (q :: r.set i (to, m)) = _
      have ih := pfind_set (k := k) (m := m) hi
      unfold pfind
      by_cases e2 : q.1 = k
      · rw [if_pos e2, if_pos e2, if_neg (by rw [← e2]; exact fun h => e h.symm)]
      · rw [if_neg e2, if_neg e2, ih]
theorem pfind_erase {k i : Int} {l : List Int} (hk : k ≠ i) : ∀ {pd : List (Int × List Int)} {j : Nat}, pd[j]? = some (i, l) → pfind k (pd.eraseIdx j) = pfind k pd
  | [], j, h => by cases h
  | q :: r, 0, h => by
    have : q = (i, l) := by simpa using h
    subst this
    show pfind k r = _
    conv => rhs; unfold pfind
    rw [if_neg (fun e => hk e.symm)]
  | q :: r, j + 1, h => by
    show pfind k (q :: r.eraseIdx j) = _
    unfold pfind
    rw [pfind_erase hk (by simpa using h)]
theorem lead_hit (to : Int) (st : List Int) (pd : List (Int × List Int)) : ∃ l', pfind to (leadP to st pd) = some l' ∧ (l' = st ∨ l' = [0]) := by
  unfold leadP
  rcases pfind_at (k := to) (pd := pd) with ⟨h1, h2⟩ | ⟨j, l, h1, h2, h3⟩
  · rw [h1]; exact ⟨st, pfind_new h2, .inl rfl⟩
  · rw [h1]
    show ∃ l', pfind to (if (pd[j]?.map Prod.snd) = some st then pd else pd.set j (to, [0])) = some l' ∧ _
    rw [h2]
    by_cases e : l = st
    · rw [if_pos (by rw [e]; rfl)]; exact ⟨l, h3, .inl e⟩
    · rw [if_neg (by simpa using e), pfind_set h1, if_pos rfl]; exact ⟨[0], rfl, .inr rfl⟩
theorem lead_keep {to k : Int} {st l : List Int} {pd : List (Int × List Int)} (h : pfind k pd = some l) : ∃ l', pfind k (leadP to st pd) = some l' ∧ (l' = l ∨ l' = [0]) := by
  unfold leadP
  cases hx : pidx to pd with
  | none => exact ⟨l, pfind_append _ h, .inl rfl⟩
  | some j =>
    show ∃ l', pfind k (if (pd[j]?.map Prod.snd) = some st then pd else pd.set j (to, [0])) = some l' ∧ _
    split
    · exact ⟨l, h, .inl rfl⟩
    · rw [pfind_set hx]
      split
      · exact ⟨[0], rfl, .inr rfl⟩
      · exact ⟨l, h, .inl rfl⟩

structure Grow (s s' : KS) : Prop where
  hs : s'.hs = s.hs
  hi : s'.hi = s.hi
  st : s'.st.length ≤ s.st.length + 1
  pd : ∀ q, q ∈ s'.pd → q ∈ s.pd ∨ q.2.length ≤ s.st.length + 1
  keep : ∀ k l, pfind k s.pd = some l → ∃ l', pfind k s'.pd = some l' ∧ (l' = l ∨ l' = [0])
theorem Grow.same (s : KS) : Grow s s := ⟨rfl, rfl, by omega, fun q hq => .inl hq, fun k l h => ⟨l, h, .inl rfl⟩⟩
theorem Grow.swap (s : KS) (n : Nat) (put : List Int) (h : put.length ≤ 1) : Grow s (s.swap n put) :=
  ⟨rfl, rfl, by simp only [KS.swap, List.length_append, List.length_take]; omega, fun q hq => .inl hq, fun k l h => ⟨l, h, .inl rfl⟩⟩
theorem lead_mem {to : Int} {st : List Int} {pd : List (Int × List Int)} {q : Int × List Int} (h : q ∈ leadP to st pd) : q ∈ pd ∨ q.2 = st ∨ q.2 = [0] := by
  unfold leadP at h
  split at h
  · rcases List.mem_append.1 h with h | h
    · exact .inl h
    · have := List.mem_singleton.1 h; exact .inr (.inl (by rw [this]))
  · split at h
    · exact .inl h
    · rcases List.mem_or_eq_of_mem_set h with h | h
      · exact .inl h
      · exact .inr (.inr (by rw [h]))
theorem Grow.lead {p : Pg} {i to : Int} {s s' : KS} (h : forwardB p i to s = some s') : Grow s s' ∧ s'.st = s.st := by
  unfold forwardB at h
  split at h
  · cases h
  · cases h
    refine ⟨⟨rfl, rfl, by simp, fun q hq => ?_, fun k l h => lead_keep h⟩, rfl⟩
    rcases lead_mem hq with h | h | h
    · exact .inl h
    · exact .inr (by rw [h]; omega)
    · exact .inr (by rw [h]; simp)
theorem ite_some {α : Type} {c : Prop} [Decidable c] {a b : Option α} {x : α} (h : (if c then a else b) = some x) : (c ∧ a = some x) ∨ (¬c ∧ b = some x) := by
  by_cases hc : c
  · rw [if_pos hc] at h; exact .inl ⟨hc, h⟩
  · rw [if_neg hc] at h; exact .inr ⟨hc, h⟩
theorem arith_grow {o : Int} {s s' : KS} (h : arithB o s = some s') : Grow s s' := by
  unfold arithB at h
  (repeat' split at h) <;> first | (cases h; done) | (have h := Option.some.inj h; subst h; exact Grow.swap _ _ _ (by simp))
set_option maxHeartbeats 4000000 in
theorem conds_grow {p : Pg} {i : Int} {x : Ins} {s s' : KS} (h : condsB p i x s = some s') : Grow s s' := by
  unfold condsB at h
  rcases ite_some h with ⟨_, h100⟩ | ⟨_, h100⟩
  · rcases ite_some h100 with ⟨_, k⟩ | ⟨_, k⟩
    · have e := Option.some.inj k
      rw [← e]
      exact Grow.swap _ _ _ (by simp)
    · cases k
  · skip
    rcases ite_some h100 with ⟨_, h101⟩ | ⟨_, h101⟩
    · rcases ite_some h101 with ⟨_, k⟩ | ⟨_, k⟩
      · have e := Option.some.inj k
        rw [← e]
        exact Grow.swap _ _ _ (by simp)
      · cases k
    · skip
      rcases ite_some h101 with ⟨_, h102⟩ | ⟨_, h102⟩
      · rcases ite_some h102 with ⟨_, k⟩ | ⟨_, k⟩
        · have e := Option.some.inj k
          rw [← e]
          exact Grow.swap _ _ _ (by simp)
        · cases k
      · skip
        rcases ite_some h102 with ⟨_, h103⟩ | ⟨_, h103⟩
        · have e := Option.some.inj h103
          rw [← e]
          exact Grow.swap _ _ _ (by simp)
        · skip
          rcases ite_some h103 with ⟨_, h104⟩ | ⟨_, h104⟩
          · rcases ite_some h104 with ⟨_, k⟩ | ⟨_, k⟩
            · have e := Option.some.inj k
              rw [← e]
              exact Grow.same _
            · cases k
          · skip
            rcases ite_some h104 with ⟨_, h105⟩ | ⟨_, h105⟩
            · rcases ite_some h105 with ⟨_, k⟩ | ⟨_, k⟩
              · have e := Option.some.inj k
                rw [← e]
                exact Grow.swap _ _ _ (by simp)
              · cases k
            · skip
              rcases ite_some h105 with ⟨_, h106⟩ | ⟨_, h106⟩
              · rcases ite_some h106 with ⟨_, k⟩ | ⟨_, k⟩
                · have e := Option.some.inj k
                  rw [← e]
                  exact Grow.swap _ _ _ (by simp)
                · cases k
              · skip
                rcases ite_some h106 with ⟨_, h107⟩ | ⟨_, h107⟩
                · rcases ite_some h107 with ⟨_, k⟩ | ⟨_, k⟩
                  · have e := Option.some.inj k
                    rw [← e]
                    exact Grow.swap _ _ _ (by simp)
                  · cases k
                · skip
                  rcases ite_some h107 with ⟨_, h108⟩ | ⟨_, h108⟩
                  · rcases ite_some h108 with ⟨_, k⟩ | ⟨_, k⟩
                    · have e := Option.some.inj k
                      rw [← e]
                      exact Grow.swap _ _ _ (by simp)
                    · cases k
                  · skip
                    rcases ite_some h108 with ⟨_, h109⟩ | ⟨_, h109⟩
                    · rcases ite_some h109 with ⟨_, k⟩ | ⟨_, k⟩
                      · have e := Option.some.inj k
                        rw [← e]
                        exact Grow.same _
                      · cases k
                    · skip
                      rcases ite_some h109 with ⟨_, h110⟩ | ⟨_, h110⟩
                      · exact arith_grow h110
                      · skip
                        rcases ite_some h110 with ⟨_, h111⟩ | ⟨_, h111⟩
                        · rcases ite_some h111 with ⟨_, k⟩ | ⟨_, k⟩
                          · have e := Option.some.inj k
                            rw [← e]
                            exact Grow.swap _ _ _ (by simp)
                          · cases k
                        · skip
                          rcases ite_some h111 with ⟨_, h112⟩ | ⟨_, h112⟩
                          · rcases ite_some h112 with ⟨_, k⟩ | ⟨_, k⟩
                            · have e := Option.some.inj k
                              rw [← e]
                              exact Grow.same _
                            · cases k
                          · skip
                            rcases ite_some h112 with ⟨_, h113⟩ | ⟨_, h113⟩
                            · rcases ite_some h113 with ⟨_, k⟩ | ⟨_, k⟩
                              · obtain ⟨s1, h1, h2⟩ := Option.map_eq_some_iff.1 k
                                obtain ⟨g1, g2⟩ := Grow.lead h1
                                rw [← h2]
                                exact ⟨g1.hs, g1.hi, by simp only [KS.swap, List.length_append, List.length_take, g2]; (first | omega | (simp; done) | (simp; omega)), g1.pd, g1.keep⟩
                              · cases k
                            · skip
                              rcases ite_some h113 with ⟨_, h114⟩ | ⟨_, h114⟩
                              · rcases ite_some h114 with ⟨_, k⟩ | ⟨_, k⟩
                                · obtain ⟨g1, g2⟩ := Grow.lead k
                                  have e : (s.swap 1 []).st.length ≤ s.st.length := by simp [KS.swap]
                                  exact ⟨g1.hs, g1.hi, by rw [g2]; omega, fun q hq => (g1.pd q hq).imp (fun h => h) (fun h => by omega), g1.keep⟩
                                · cases k
                              · skip
                                rcases ite_some h114 with ⟨_, h115⟩ | ⟨_, h115⟩
                                · obtain ⟨s1, h1, h2⟩ := Option.map_eq_some_iff.1 h115
                                  obtain ⟨g1, g2⟩ := Grow.lead h1
                                  rw [← h2]
                                  exact ⟨g1.hs, g1.hi, by simp only [KS.swap, List.length_append, List.length_take, g2]; (first | omega | (simp; done) | (simp; omega)), g1.pd, g1.keep⟩
                                · skip
                                  rcases ite_some h115 with ⟨_, h116⟩ | ⟨_, h116⟩
                                  · rcases ite_some h116 with ⟨_, k⟩ | ⟨_, k⟩
                                    · have e := Option.some.inj k
                                      rw [← e]
                                      exact Grow.swap _ _ _ (by simp)
                                    · cases k
                                  · skip
                                    rcases ite_some h116 with ⟨_, h117⟩ | ⟨_, h117⟩
                                    · rcases ite_some h117 with ⟨_, k⟩ | ⟨_, k⟩
                                      · have e := Option.some.inj k
                                        rw [← e]
                                        exact Grow.swap _ _ _ (by simp)
                                      · cases k
                                    · skip
                                      rcases ite_some h117 with ⟨_, h118⟩ | ⟨_, h118⟩
                                      · have e := Option.some.inj h118
                                        rw [← e]
                                        exact Grow.same _
                                      · skip
                                        rcases ite_some h118 with ⟨_, h119⟩ | ⟨_, h119⟩
                                        · rcases ite_some h119 with ⟨_, k⟩ | ⟨_, k⟩
                                          · have e := Option.some.inj k
                                            rw [← e]
                                            exact Grow.same _
                                          · cases k
                                        · cases h119
theorem lics_grow {p : Pg} {x : Ins} {s s' : KS} (h : vlicsB p x s = some s') : Grow s s' := by
  unfold vlicsB at h
  rcases ite_some h with ⟨_, h100⟩ | ⟨_, h100⟩
  · rcases ite_some h100 with ⟨_, k⟩ | ⟨_, k⟩
    · have e := Option.some.inj k
      rw [← e]
      exact Grow.swap _ _ _ (by simp)
    · cases k
  · skip
    rcases ite_some h100 with ⟨_, h101⟩ | ⟨_, h101⟩
    · rcases ite_some h101 with ⟨_, k⟩ | ⟨_, k⟩
      · have e := Option.some.inj k
        rw [← e]
        exact Grow.swap _ _ _ (by simp)
      · cases k
    · skip
      rcases ite_some h101 with ⟨_, h102⟩ | ⟨_, h102⟩
      · rcases ite_some h102 with ⟨_, k⟩ | ⟨_, k⟩
        · have e := Option.some.inj k
          rw [← e]
          exact Grow.swap _ _ _ (by simp)
        · cases k
      · skip
        rcases ite_some h102 with ⟨_, h103⟩ | ⟨_, h103⟩
        · rcases ite_some h103 with ⟨_, k⟩ | ⟨_, k⟩
          · have e := Option.some.inj k
            rw [← e]
            exact Grow.swap _ _ _ (by simp)
          · cases k
        · cases h103
theorem go_grow {p : Pg} {i : Int} {x : Ins} {s s' : KS} (h : goB p i x s = some s') : Grow s s' := by
  unfold goB at h
  split at h
  · exact conds_grow h
  · exact lics_grow h

structure Fine (n : Nat) (s : KS) : Prop where
  st : s.st.length ≤ n
  hs : s.hs.length ≤ n
  pd : ∀ q, q ∈ s.pd → q.2.length ≤ n + 1

theorem tail_some {p : Pg} {i : Int} {s s' : KS} (h : tailB p i s = some s') : ∃ x s1, p.C[i.toNat]? = some x ∧ endOp x = decide (i = (p.C.length : Int) - 1) ∧ riskyB x.op s.st = false ∧ goB p i x { s with hs := s.hs ++ [(s.st.length : Int)] } = some s1 ∧ (s1.st.length : Int) ≤ p.S ∧ s' = { s1 with hi := if (s1.st.length : Int) > s1.hi then s1.st.length else s1.hi } := by
  unfold tailB at h
  split at h
  · cases h
  · rename_i x hx
    split at h
    · cases h
    · rename_i hn
      split at h
      · cases h
      · rename_i s1 hg
        split at h
        · rename_i hl
          refine ⟨x, s1, hx, ?_, ?_, hg, hl, (Option.some.inj h).symm⟩
          · by_cases e : endOp x = decide (i = (p.C.length : Int) - 1)
            · exact e
            · exact absurd (.inl e) hn
          · cases hr : riskyB x.op s.st with
            | false => rfl
            | true => exact absurd (.inr hr) hn
        · cases h
theorem step_some {p : Pg} {i : Int} {s s' : KS} (h : stepB p i s = some s') : ∃ pd', tailB p i { s with pd := pd' } = some s' ∧ ∀ q, q ∈ pd' → q ∈ s.pd := by
  unfold stepB at h
  split at h
  · exact ⟨s.pd, h, fun q hq => hq⟩
  · rename_i j l hj
    split at h
    · cases h
    · rename_i hn
      have hl : l = s.st := by
        by_cases e : l = s.st
        · exact e
        · exact absurd (.inl e) hn
      subst hl
      exact ⟨s.pd.eraseIdx j, h, fun q hq => List.mem_of_mem_eraseIdx hq⟩
theorem step_fine {p : Pg} {i : Int} {n : Nat} {s s' : KS} (hf : Fine n s) (h : stepB p i s = some s') : Fine (n + 1) s' ∧ s'.hs = s.hs ++ [(s.st.length : Int)] := by
  obtain ⟨pd', h1, h2⟩ := step_some h
  obtain ⟨x, s1, _, _, _, h3, _, rfl⟩ := tail_some h1
  have hg := go_grow h3
  have e1 : s1.hs = s.hs ++ [(s.st.length : Int)] := hg.hs
  have e2 : s1.st.length ≤ s.st.length + 1 := hg.st
  have := hf.st
  have := hf.hs
  refine ⟨⟨?_, ?_, ?_⟩, e1⟩
  · show s1.st.length ≤ _; omega
  · show s1.hs.length ≤ _; rw [e1]; simp; omega
  · intro q hq
    rcases hg.pd q hq with h | h
    · have := hf.pd q (h2 q h); omega
    · have h : q.2.length ≤ s.st.length + 1 := h
      omega

def runB (p : Pg) : Nat → Nat → KS → KS × Option Nat
  | 0, _, s => (s, none)
  | n + 1, i, s => match stepB p i s with
    | none => (s, some i)
    | some s' => runB p n (i + 1) s'
def ks0 : KS := ⟨[], [], [], 0⟩
def walkB (p : Pg) : List Int × Int × Int :=
  if errP p.κ p.T p.C p.S ≠ 0 then ([], 0, errP p.κ p.T p.C p.S)
  else if p.κ = 1 ∧ p.S > 1024 then ([], 0, 3)
  else match runB p p.C.length 0 ks0 with
    | (_, some i) => ([], i, 230)
    | (s, none) => if p.C.length = 0 ∨ s.hi ≠ p.S then ([], p.C.length, 230) else (s.hs, 0, 0)
end Go.Proofs.YtgdimfogijfmiaaDoor.AD

namespace Go.Proofs.YtgdimfogijfmiaaDoor.AD
open Go.Proofs
set_option linter.unusedVariables false
set_option linter.unusedSimpArgs false
set_option maxRecDepth 100000

theorem pureF_of_le {P : Program} {own : List Nat} {f : Nat} {ir : IF} {args : List AV} {r : PV} (hc : compF P own f = some ir.bare) (h : ∀ H, fnV P ir args H fun r' H' => (∃ e, r' = .p e ∧ PV.le e r) ∧ H' = H) : pureF P f args (.p r) := fun H μ w xs hi hx => by
  refine Calls.mono' (sound hc (h H) μ w xs hi hx) ?_
  rintro e w' ⟨v, r1, H', μ', g1, ⟨⟨e', rfl, hl⟩, rfl⟩, g3, g4, g5⟩
  exact ⟨v, _, H', μ', g1, ⟨rfl, rfl⟩, g3, .p _ _ (hl _ _ _ g4.pv), g5⟩

/-- A call leaves no object of the caller's out. -/
theorem CallVC.grow {P : Program} {f : Nat} {args : List AV} {ba lo : List Ob} {K : AV → List Ob → List Ob → Prop} (h : CallVC P f args ba lo fun r b l => lo.length ≤ l.length → K r b l) : CallVC P f args ba lo K := by
  refine ⟨fun μ w xs hi hx => (h.out μ w xs hi hx).mono fun e w' hw => ?_⟩
  obtain ⟨v, r, μ', ba', lo', rfl, g2, g3, g4, g5, g6⟩ := hw
  refine ⟨v, r, μ', ba', lo', rfl, g2, g3, g4, g5, g6 ?_⟩
  have h1 := hi.len
  have h2 := g3.len
  have h3 : μ.length ≤ μ'.length := by
    rcases Nat.lt_or_ge μ'.length μ.length with hl | hl
    · exfalso
      obtain ⟨m', hm, _⟩ := g4.above μ'.length _ (List.getElem?_eq_getElem hl)
      have := get_lt hm
      omega
    · exact hl
  omega

theorem CP.take {p : Pg} {s : KS} {lo : List Ob} (h : CP p s lo) (n : Nat) (hn : 2 ≤ n) (hl : obsLowL n (lo.take n) = true) : CP p s (lo.take n) := by
  obtain ⟨vs, stv, hv, rest, hlo, hfam⟩ := h.ex
  obtain ⟨m, rfl⟩ : ∃ m, n = m + 2 := ⟨n - 2, by omega⟩
  subst hlo
  have e : ([Ob.mapA (pkey s.pd) vs, .cells [.p (.int .u8 p.κ), .p (.list 1 (tP p.T)), .p (.list 3 (cP p.C)), .p (.int .i64 p.S), stv, .mapr (.l 0), hv, .p (.int .i64 s.hi)]] ++ rest).take (m + 2) = [Ob.mapA (pkey s.pd) vs, .cells [.p (.int .u8 p.κ), .p (.list 1 (tP p.T)), .p (.list 3 (cP p.C)), .p (.int .i64 p.S), stv, .mapr (.l 0), hv, .p (.int .i64 s.hi)]] ++ rest.take m := rfl
  rw [e] at hl ⊢
  have hl : (AV.lowsL (m + 2) vs && (AV.lowsL (m + 2) [.p (.int .u8 p.κ), .p (.list 1 (tP p.T)), .p (.list 3 (cP p.C)), .p (.int .i64 p.S), stv, .mapr (.l 0), hv, .p (.int .i64 s.hi)] && obsLowL (m + 2) (rest.take m))) = true := hl
  rw [Bool.and_eq_true, Bool.and_eq_true] at hl
  refine ⟨vs, stv, hv, rest.take m, rfl, hfam.take m fun a ha => ?_⟩
  rcases List.mem_cons.1 ha with rfl | ha
  · exact lowsL_mem hl.2.1 _ (by simp)
  rcases List.mem_cons.1 ha with rfl | ha
  · exact lowsL_mem hl.2.1 _ (by simp)
  · exact lowsL_mem hl.1 _ ha

def resW (r : List Int × Int × Int) : PV := .tup [.list 1 (iP r.1), .int .i64 r.2.1, .int .i64 r.2.2]
theorem resW_nil (a b : Int) : PV.le (.tup [.nils, .int .i64 a, .int .i64 b]) (resW ([], a, b)) :=
  PV.le.tup (.cons _ _ _ _ (PV.le.nils 1) (.refl _))
theorem txtSz_mem {t : ByteArray} : ∀ {T : List ByteArray}, t ∈ T → (t.size : Int) ≤ txtSz T
  | [], h => by cases h
  | u :: r, h => by
    have h1 := szN_range 5 u.size
    have h2 := txtSz_nonneg r
    cases h with
    | head => simp only [txtSz]; omega
    | tail _ h => have := txtSz_mem h; simp only [txtSz]; omega
theorem errP_ok {κ : Int} {T : List ByteArray} {C : List Ins} {S : Int} (h : errP κ T C S = 0) : C.length ≤ 32768 ∧ T.length ≤ 8192 ∧ C.all insOk = true ∧ ∀ t, t ∈ T → t.size ≤ 1000000000 := by
  unfold errP at h
  split at h
  · cases h
  · rename_i h1
    split at h
    · cases h
    · rename_i h2
      refine ⟨by omega, by omega, ?_, fun t ht => ?_⟩
      · cases hc : C.all insOk with
        | true => rfl
        | false => exact absurd (.inr (.inr hc)) h2
      · split at h
        · cases h
        · rename_i h3
          have h4 := txtSz_mem ht
          have h5 := codeSz_range C
          have h6 : 0 ≤ hdSz T C S := by
            have a1 := szN_range 5 S
            have a2 := szN_range 5 T.length
            have a3 := szN_range 5 C.length
            unfold hdSz
            omega
          omega

set_option maxHeartbeats 8000000 in
theorem walk_spec (p : Pg) (hTl : p.T.length ≤ 1000000000) (hCl : p.C.length ≤ 1000000000) : pureF Tryd.prog 20 [.p (encPg p.κ p.T p.C p.S)] (.p (resW (walkB p))) := by
  refine pureF_of_le f20_ok fun H => ?_
  have hcl := cP_len p.C
  (conv => whnf)
  refine CallVC.pureF (codeCheck_spec p.κ p.T p.C p.S hTl hCl) rfl ?_
  (conv => whnf)
  refine splitB_ne (fun h => ?_) (fun h => ?_)
  · (conv => whnf)
    refine ⟨⟨_, rfl, ?_⟩, rfl⟩
    rw [walkB, if_pos h]
    exact resW_nil _ _
  obtain ⟨q1, q2, hC, hts⟩ := errP_ok h
  have hfits : p.fits := ⟨q2, q1, hts⟩
  have hw1 : walkB p = if p.κ = 1 ∧ p.S > 1024 then (([] : List Int), (0 : Int), (3 : Int)) else match runB p p.C.length 0 ks0 with
    | (_, some i) => ([], i, 230)
    | (s, none) => if p.C.length = 0 ∨ s.hi ≠ p.S then ([], p.C.length, 230) else (s.hs, 0, 0) := by unfold walkB; exact if_neg (fun e => e h)
  have main : ¬(p.κ = 1 ∧ p.S > 1024) → W Tryd.prog f20.c39 [(1, .p (.ptr [.int .u8 p.κ, .list 1 (tP p.T), .list 3 (cP p.C), .int .i64 p.S]))] H [] (endQ f20 fun r' H' => (∃ e, r' = .p e ∧ PV.le e (resW (walkB p))) ∧ H' = H) := fun hn => by
    have hw : walkB p = match runB p p.C.length 0 ks0 with
      | (_, some i) => ([], i, 230)
      | (s, none) => if p.C.length = 0 ∨ s.hi ≠ p.S then ([], p.C.length, 230) else (s.hs, 0, 0) := by rw [hw1, if_neg hn]
    (conv => whnf)
    intro R hR
    have key : ∀ (n i : Nat) (s : KS) (lo : List Ob), i + n = p.C.length → Fine i s → CP p s lo → runB p p.C.length 0 ks0 = runB p n i s → R [(1, .p (.ptr [.int .u8 p.κ, .list 1 (tP p.T), .list 3 (cP p.C), .int .i64 p.S])), (6, .ref (.l 1) 0), (27, .p (.int .i64 (cP p.C).length)), (28, .p (.int .i64 i))] H lo := by
      intro n
      induction n with
      | zero =>
        intro i s lo hi hf hcs hr
        refine hR _ _ _ ?_
        (conv => whnf)
        refine splitB_f (decide_eq_false (by omega)) ?_
        obtain ⟨vs, stv, hv, rest, hlo, hfam⟩ := hcs.ex
        have hoh := hfam.own 1 hv s.hs rfl rfl
        rw [hlo]
        have hr : runB p p.C.length 0 ks0 = (s, none) := hr
        have hw2 : walkB p = if p.C.length = 0 ∨ s.hi ≠ p.S then ([], (p.C.length : Int), 230) else (s.hs, 0, 0) := by rw [hw, hr]
        (conv => whnf)
        by_cases h0 : p.C.length = 0
        · refine splitB_t (by simp [hcl, h0]) ?_
          (conv => whnf)
          refine splitB_t rfl ?_
          (conv => whnf)
          refine ⟨⟨_, rfl, ?_⟩, rfl⟩
          rw [hw2, if_pos (.inl h0), ← hcl]
          exact resW_nil _ _
        · refine splitB_f (by simp [hcl, h0]) ?_
          (conv => whnf)
          refine splitB_ne (fun h1 => ?_) (fun h1 => ?_)
          · (conv => whnf)
            refine ⟨⟨_, rfl, ?_⟩, rfl⟩
            rw [hw2, if_pos (.inr h1), ← hcl]
            exact resW_nil _ _
          · have hw3 : walkB p = (s.hs, 0, 0) := by rw [hw2, if_neg (fun e => e.elim h0 (fun e => e h1))]
            rw [hw3]
            rcases hoh with ⟨rfl, he⟩ | ⟨rfl, he⟩ | ⟨k, g, es, rfl, g2, g3, g4⟩
            · (conv => whnf)
              refine ⟨⟨_, rfl, ?_⟩, rfl⟩
              rw [he]
              exact resW_nil _ _
            · (conv => whnf)
              refine ⟨⟨_, rfl, ?_⟩, rfl⟩
              rw [he]
              exact PV.le.tup (.cons _ _ _ _ (PV.le.emp 1) (.refl _))
            · (conv => whnf)
              refine atK_in _ _ _ _ g2 ?_
              refine ⟨⟨rfl, rfl⟩, .inl ⟨_, g3, g4, ?_⟩⟩
              (conv => whnf)
              exact ⟨⟨_, rfl, .refl _⟩, rfl⟩
      | succ n ih =>
        intro i s lo hi hf hcs hr
        refine hR _ _ _ ?_
        (conv => whnf)
        refine splitB_t (decide_eq_true (by omega)) ?_
        (conv => whnf)
        have hst := hf.st
        have hhs := hf.hs
        refine CallVC.grow ?_
        refine step_spec p hfits hC i ⟨by omega, by omega⟩ s (by omega) (by omega) (fun q hq => by have := hf.pd q hq; omega) _ _ hcs fun lo' s' h1 h2 hgrow => ?_
        (conv => whnf)
        cases hs : stepB p i s with
        | none =>
          refine splitB_t rfl ?_
          have hr : runB p p.C.length 0 ks0 = (s, some i) := by rw [hr, runB, hs]
          have hw2 : walkB p = ([], (i : Int), 230) := by rw [hw, hr]
          (conv => whnf)
          refine ⟨⟨_, rfl, ?_⟩, rfl⟩
          rw [hw2]
          exact resW_nil _ _
        | some s1 =>
          have e := h2 s1 hs
          subst e
          refine splitB_f rfl ?_
          have hr : runB p p.C.length 0 ks0 = runB p n (i + 1) s' := by rw [hr, runB, hs]
          have hf' := (step_fine hf hs).1
          have hi' : i + 1 + n = p.C.length := by omega
          (conv => whnf)
          rw [IntWalk.i64_in _ (by omega)]
          have h2l : 2 ≤ lo.length := by
            obtain ⟨vs, stv, hv, rest, hlo, hfam⟩ := hcs.ex
            rw [hlo]; simp
          split
          · rename_i hb
            rw [Bool.and_eq_true] at hb
            refine takeK_in _ _ _ hgrow ?_
            exact ih (i + 1) s' _ hi' hf' (h1.take _ h2l hb.2) hr
          · exact ih (i + 1) s' _ hi' hf' h1 hr
    exact key p.C.length 0 ks0 _ (by omega) ⟨by simp [ks0], by simp [ks0], fun q hq => by cases hq⟩ ⟨[], .p .nils, .p .nils, [], rfl, ⟨rfl, fun j a l ha hl => by (rcases j with _ | _ | j <;> simp at ha hl; (exact .inl ⟨ha.symm, hl.symm⟩); (exact .inl ⟨ha.symm, hl.symm⟩)), fun i j a b k ha hb h1 h2 => by (rcases i with _ | _ | i <;> simp at ha; (subst ha; cases h1); (subst ha; cases h1))⟩⟩ rfl
  (conv => whnf)
  refine splitB_eq (fun hk => ?_) (fun hk => ?_)
  · (conv => whnf)
    refine splitB_dec (fun hs => ?_) (fun hs => ?_)
    · (conv => whnf)
      refine ⟨⟨_, rfl, ?_⟩, rfl⟩
      rw [hw1, if_pos ⟨hk, hs⟩]
      exact resW_nil _ _
    · have m := main (fun e => hs e.2)
      conv at m => whnf
      (conv => whnf)
      exact m
  · have m := main (fun e => hk e.1)
    conv at m => whnf
    (conv => whnf)
    refine splitB_f rfl ?_
    (conv => whnf)
    exact m

theorem vheights_spec (p : Pg) (hTl : p.T.length ≤ 1000000000) (hCl : p.C.length ≤ 1000000000) : pureF Tryd.prog 9 [.p (encPg p.κ p.T p.C p.S)] (.p (.tup [.list 1 (iP (walkB p).1), .int .i64 (walkB p).2.2])) := by
  refine pureF_of f9_ok fun H => ?_
  (conv => whnf)
  refine CallVC.pureF (walk_spec p hTl hCl) rfl ?_
  (conv => whnf)
  exact ⟨rfl, rfl⟩
theorem vcheck_spec (p : Pg) (hTl : p.T.length ≤ 1000000000) (hCl : p.C.length ≤ 1000000000) : pureF Tryd.prog 12 [.p (encPg p.κ p.T p.C p.S)] (.p (.tup [.int .i64 (walkB p).2.1, .int .i64 (walkB p).2.2])) := by
  refine pureF_of f12_ok fun H => ?_
  (conv => whnf)
  refine CallVC.pureF (walk_spec p hTl hCl) rfl ?_
  (conv => whnf)
  exact ⟨rfl, rfl⟩
theorem vhighest_spec (p : Pg) (hTl : p.T.length ≤ 1000000000) (hCl : p.C.length ≤ 1000000000) : pureF Tryd.prog 14 [.p (encPg p.κ p.T p.C p.S)] (.p (.tup [.int .i64 (if (walkB p).2.2 = 0 then p.S else 0), .int .i64 (walkB p).2.2])) := by
  refine pureF_of f14_ok fun H => ?_
  (conv => whnf)
  refine CallVC.pureF (walk_spec p hTl hCl) rfl ?_
  (conv => whnf)
  refine splitB_ne (fun h => ?_) (fun h => ?_)
  · rw [if_neg h]
    (conv => whnf)
    exact ⟨rfl, rfl⟩
  · rw [if_pos h, h]
    (conv => whnf)
    exact ⟨rfl, rfl⟩
end Go.Proofs.YtgdimfogijfmiaaDoor.AD

namespace Go.Proofs.YtgdimfogijfmiaaDoor.AD
open Go.Proofs
set_option linter.unusedVariables false
set_option linter.unusedSimpArgs false
set_option maxRecDepth 100000

/-- The same, where no texts are given. -/
theorem vcheckN_spec (κ : Int) (C : List Ins) (S : Int) (hCl : C.length ≤ 1000000000) (a b : Int) (h : (walkB ⟨κ, [], C, S⟩).2 = (a, b)) : pureF Tryd.prog 12 [.p (.agg [.int .u8 κ, .nils, .list 3 (cP C), .int .i64 S])] (.p (.tup [.int .i64 a, .int .i64 b])) := by
  have h0 := vcheck_spec ⟨κ, [], C, S⟩ (by simp) hCl
  rw [h] at h0
  exact h0.args (.p _ _ _ _ (PV.le.agg (.cons _ _ _ _ (.refl _) (.cons _ _ _ _ (PV.le.nils 1) (.refl _)))) .nil)

theorem works23_spec : pureF Tryd.prog 8 [] (.p (.bool true)) := by
  refine pureF_of f8_ok fun H => ?_
  have h1 := vcheckN_spec 1 [⟨24, 0, 0⟩, ⟨28, 2, 0⟩, ⟨33, 0, 0⟩] 1 (by simp) 0 0 (by decide +kernel)
  have h2 := vcheckN_spec 1 [⟨28, 1, 0⟩, ⟨33, 0, 0⟩] 0 (by simp) 0 230 (by decide +kernel)
  (conv => whnf)
  refine CallVC.pureF h1 rfl ?_
  (conv => whnf)
  refine CallVC.pureF h2 rfl ?_
  (conv => whnf)
  refine splitB_t rfl ?_
  (conv => whnf)
  refine splitB_t rfl ?_
  (conv => whnf)
  exact ⟨rfl, rfl⟩
end Go.Proofs.YtgdimfogijfmiaaDoor.AD

namespace Go.Proofs.YtgdimfogijfmiaaDoor.AD
open Go.Proofs
set_option linter.unusedVariables false
set_option linter.unusedSimpArgs false
set_option maxRecDepth 100000

inductive TxtV : PV → List ByteArray → Prop
  | nils : TxtV .nils []
  | list (T : List ByteArray) : TxtV (.list 1 (tP T)) T
inductive CodeV : PV → List Ins → Prop
  | nils : CodeV .nils []
  | list (C : List Ins) : CodeV (.list 3 (cP C)) C
theorem TxtV.le {v : PV} {T : List ByteArray} (h : TxtV v T) : PV.le v (.list 1 (tP T)) := by
  cases h with
  | nils => exact PV.le.nils 1
  | list => exact .refl _
theorem CodeV.le {v : PV} {C : List Ins} (h : CodeV v C) : PV.le v (.list 3 (cP C)) := by
  cases h with
  | nils => exact PV.le.nils 3
  | list => exact .refl _

theorem told23_spec {κ S at_ e : Int} {tv cv : PV} {T : List ByteArray} {C : List Ins} (hT : TxtV tv T) (hC : CodeV cv C) (hTl : T.length ≤ 1000000000) (hCl : C.length ≤ 1000000000) (h : (walkB ⟨κ, T, C, S⟩).2 = (at_, e)) :
    pureF Tryd.prog 7 [.p (.int .u8 κ), .p (.int .i64 S), .p tv, .p cv, .p (.int .i64 at_), .p (.int .i64 e)] (.p (.bool true)) := by
  refine pureF_of f7_ok fun H => ?_
  have h0 := vcheck_spec ⟨κ, T, C, S⟩ hTl hCl
  rw [h] at h0
  have h1 : pureF Tryd.prog 12 [.p (.agg [.int .u8 κ, tv, cv, .int .i64 S])] (.p (.tup [.int .i64 at_, .int .i64 e])) := h0.args (.p _ _ _ _ (PV.le.agg (.cons _ _ _ _ (.refl _) (.cons _ _ _ _ hT.le (.cons _ _ _ _ hC.le (.refl _))))) .nil)
  cases hT <;> cases hC
  all_goals
    (conv => whnf)
    refine CallVC.pureF h1 rfl ?_
    (conv => whnf)
    refine splitB_t (by simp) ?_
    (conv => whnf)
    refine ⟨?_, rfl⟩
    simp
end Go.Proofs.YtgdimfogijfmiaaDoor.AD

namespace Go.Proofs.YtgdimfogijfmiaaDoor.AD
open Go.Proofs
set_option linter.unusedVariables false
set_option linter.unusedSimpArgs false
set_option maxRecDepth 100000

def txA : List ByteArray := [⟨#[97]⟩, ⟨#[49]⟩, ⟨#[49, 46, 53]⟩, ⟨#[49, 97]⟩]

theorem k1_told : pureF Tryd.prog 7 [.p (.int .u8 1), .p (.int .i64 0), .p (.nils), .p (.list 3 (cP [⟨33, 0, 0⟩])), .p (.int .i64 0), .p (.int .i64 0)] (.p (.bool true)) :=
  told23_spec (T := []) (C := [⟨33, 0, 0⟩]) .nils (.list _) (by decide) (by decide) (by decide +kernel)
theorem k2_told : pureF Tryd.prog 7 [.p (.int .u8 1), .p (.int .i64 1), .p (.nils), .p (.list 3 (cP [⟨33, 0, 0⟩])), .p (.int .i64 1), .p (.int .i64 230)] (.p (.bool true)) :=
  told23_spec (T := []) (C := [⟨33, 0, 0⟩]) .nils (.list _) (by decide) (by decide) (by decide +kernel)
theorem k3_told : pureF Tryd.prog 7 [.p (.int .u8 1), .p (.int .i64 1), .p (.nils), .p (.list 3 (cP [⟨24, 0, 0⟩, ⟨33, 0, 0⟩])), .p (.int .i64 1), .p (.int .i64 230)] (.p (.bool true)) :=
  told23_spec (T := []) (C := [⟨24, 0, 0⟩, ⟨33, 0, 0⟩]) .nils (.list _) (by decide) (by decide) (by decide +kernel)
theorem k4_told : pureF Tryd.prog 7 [.p (.int .u8 1), .p (.int .i64 0), .p (.nils), .p (.list 3 (cP [⟨32, 0, 0⟩])), .p (.int .i64 0), .p (.int .i64 230)] (.p (.bool true)) :=
  told23_spec (T := []) (C := [⟨32, 0, 0⟩]) .nils (.list _) (by decide) (by decide) (by decide +kernel)
theorem k5_told : pureF Tryd.prog 7 [.p (.int .u8 1), .p (.int .i64 0), .p (.nils), .p (.nils), .p (.int .i64 0), .p (.int .i64 230)] (.p (.bool true)) :=
  told23_spec (T := []) (C := []) .nils .nils (by decide) (by decide) (by decide +kernel)
theorem k6_told : pureF Tryd.prog 7 [.p (.int .u8 1), .p (.int .i64 1), .p (.nils), .p (.list 3 (cP [⟨24, 0, 0⟩, ⟨28, 2, 0⟩, ⟨33, 0, 0⟩])), .p (.int .i64 0), .p (.int .i64 0)] (.p (.bool true)) :=
  told23_spec (T := []) (C := [⟨24, 0, 0⟩, ⟨28, 2, 0⟩, ⟨33, 0, 0⟩]) .nils (.list _) (by decide) (by decide) (by decide +kernel)
theorem k7_told : pureF Tryd.prog 7 [.p (.int .u8 1), .p (.int .i64 1), .p (.nils), .p (.list 3 (cP [⟨24, 0, 0⟩, ⟨28, 1, 0⟩, ⟨33, 0, 0⟩])), .p (.int .i64 1), .p (.int .i64 230)] (.p (.bool true)) :=
  told23_spec (T := []) (C := [⟨24, 0, 0⟩, ⟨28, 1, 0⟩, ⟨33, 0, 0⟩]) .nils (.list _) (by decide) (by decide) (by decide +kernel)
theorem k8_told : pureF Tryd.prog 7 [.p (.int .u8 1), .p (.int .i64 1), .p (.nils), .p (.list 3 (cP [⟨24, 0, 0⟩, ⟨28, 3, 0⟩, ⟨33, 0, 0⟩])), .p (.int .i64 1), .p (.int .i64 230)] (.p (.bool true)) :=
  told23_spec (T := []) (C := [⟨24, 0, 0⟩, ⟨28, 3, 0⟩, ⟨33, 0, 0⟩]) .nils (.list _) (by decide) (by decide) (by decide +kernel)
theorem k9_told : pureF Tryd.prog 7 [.p (.int .u8 1), .p (.int .i64 2), .p (.list 1 (tP txA)), .p (.list 3 (cP [⟨1, 0, 0⟩, ⟨1, 0, 0⟩, ⟨22, 0, 0⟩, ⟨28, 4, 0⟩, ⟨33, 0, 0⟩])), .p (.int .i64 2), .p (.int .i64 230)] (.p (.bool true)) :=
  told23_spec (T := txA) (C := [⟨1, 0, 0⟩, ⟨1, 0, 0⟩, ⟨22, 0, 0⟩, ⟨28, 4, 0⟩, ⟨33, 0, 0⟩]) (.list txA) (.list _) (by decide) (by decide) (by decide +kernel)
theorem k10_told : pureF Tryd.prog 7 [.p (.int .u8 1), .p (.int .i64 3), .p (.list 1 (tP txA)), .p (.list 3 (cP [⟨29, 6, 0⟩, ⟨1, 0, 0⟩, ⟨1, 0, 0⟩, ⟨22, 0, 0⟩, ⟨28, 5, 0⟩, ⟨30, 0, 0⟩, ⟨33, 0, 0⟩])), .p (.int .i64 0), .p (.int .i64 0)] (.p (.bool true)) :=
  told23_spec (T := txA) (C := [⟨29, 6, 0⟩, ⟨1, 0, 0⟩, ⟨1, 0, 0⟩, ⟨22, 0, 0⟩, ⟨28, 5, 0⟩, ⟨30, 0, 0⟩, ⟨33, 0, 0⟩]) (.list txA) (.list _) (by decide) (by decide) (by decide +kernel)
theorem k11_told : pureF Tryd.prog 7 [.p (.int .u8 1), .p (.int .i64 2), .p (.nils), .p (.list 3 (cP [⟨29, 3, 0⟩, ⟨24, 0, 0⟩, ⟨30, 0, 0⟩, ⟨33, 0, 0⟩])), .p (.int .i64 2), .p (.int .i64 230)] (.p (.bool true)) :=
  told23_spec (T := []) (C := [⟨29, 3, 0⟩, ⟨24, 0, 0⟩, ⟨30, 0, 0⟩, ⟨33, 0, 0⟩]) .nils (.list _) (by decide) (by decide) (by decide +kernel)
theorem k12_told : pureF Tryd.prog 7 [.p (.int .u8 2), .p (.int .i64 2), .p (.list 1 (tP txA)), .p (.list 3 (cP [⟨34, 0, 0⟩, ⟨34, 0, 0⟩, ⟨37, 3, 2⟩, ⟨38, 0, 0⟩])), .p (.int .i64 2), .p (.int .i64 230)] (.p (.bool true)) :=
  told23_spec (T := txA) (C := [⟨34, 0, 0⟩, ⟨34, 0, 0⟩, ⟨37, 3, 2⟩, ⟨38, 0, 0⟩]) (.list txA) (.list _) (by decide) (by decide) (by decide +kernel)
theorem k13_told : pureF Tryd.prog 7 [.p (.int .u8 2), .p (.int .i64 2), .p (.list 1 (tP txA)), .p (.list 3 (cP [⟨34, 0, 0⟩, ⟨34, 0, 0⟩, ⟨37, 2, 2⟩, ⟨38, 0, 0⟩])), .p (.int .i64 0), .p (.int .i64 0)] (.p (.bool true)) :=
  told23_spec (T := txA) (C := [⟨34, 0, 0⟩, ⟨34, 0, 0⟩, ⟨37, 2, 2⟩, ⟨38, 0, 0⟩]) (.list txA) (.list _) (by decide) (by decide) (by decide +kernel)
theorem k14_told : pureF Tryd.prog 7 [.p (.int .u8 2), .p (.int .i64 2), .p (.list 1 (tP txA)), .p (.list 3 (cP [⟨34, 0, 0⟩, ⟨34, 0, 0⟩, ⟨37, 1, 3⟩, ⟨38, 0, 0⟩])), .p (.int .i64 2), .p (.int .i64 230)] (.p (.bool true)) :=
  told23_spec (T := txA) (C := [⟨34, 0, 0⟩, ⟨34, 0, 0⟩, ⟨37, 1, 3⟩, ⟨38, 0, 0⟩]) (.list txA) (.list _) (by decide) (by decide) (by decide +kernel)
theorem k15_told : pureF Tryd.prog 7 [.p (.int .u8 2), .p (.int .i64 2), .p (.list 1 (tP txA)), .p (.list 3 (cP [⟨34, 0, 0⟩, ⟨34, 0, 0⟩, ⟨38, 0, 0⟩])), .p (.int .i64 2), .p (.int .i64 230)] (.p (.bool true)) :=
  told23_spec (T := txA) (C := [⟨34, 0, 0⟩, ⟨34, 0, 0⟩, ⟨38, 0, 0⟩]) (.list txA) (.list _) (by decide) (by decide) (by decide +kernel)
theorem k16_told : pureF Tryd.prog 7 [.p (.int .u8 2), .p (.int .i64 1), .p (.nils), .p (.list 3 (cP [⟨34, 0, 0⟩, ⟨38, 0, 0⟩])), .p (.int .i64 0), .p (.int .i64 230)] (.p (.bool true)) :=
  told23_spec (T := []) (C := [⟨34, 0, 0⟩, ⟨38, 0, 0⟩]) .nils (.list _) (by decide) (by decide) (by decide +kernel)
theorem k17_told : pureF Tryd.prog 7 [.p (.int .u8 1), .p (.int .i64 1), .p (.list 1 (tP txA)), .p (.list 3 (cP [⟨34, 0, 0⟩, ⟨33, 0, 0⟩])), .p (.int .i64 0), .p (.int .i64 230)] (.p (.bool true)) :=
  told23_spec (T := txA) (C := [⟨34, 0, 0⟩, ⟨33, 0, 0⟩]) (.list txA) (.list _) (by decide) (by decide) (by decide +kernel)
theorem k18_told : pureF Tryd.prog 7 [.p (.int .u8 2), .p (.int .i64 0), .p (.nils), .p (.list 3 (cP [⟨33, 0, 0⟩])), .p (.int .i64 0), .p (.int .i64 230)] (.p (.bool true)) :=
  told23_spec (T := []) (C := [⟨33, 0, 0⟩]) .nils (.list _) (by decide) (by decide) (by decide +kernel)
theorem k19_told : pureF Tryd.prog 7 [.p (.int .u8 1), .p (.int .i64 1), .p (.list 1 (tP txA)), .p (.list 3 (cP [⟨2, 0, 0⟩, ⟨33, 0, 0⟩])), .p (.int .i64 0), .p (.int .i64 230)] (.p (.bool true)) :=
  told23_spec (T := txA) (C := [⟨2, 0, 0⟩, ⟨33, 0, 0⟩]) (.list txA) (.list _) (by decide) (by decide) (by decide +kernel)
theorem k20_told : pureF Tryd.prog 7 [.p (.int .u8 1), .p (.int .i64 1), .p (.list 1 (tP txA)), .p (.list 3 (cP [⟨4, 3, 0⟩, ⟨33, 0, 0⟩])), .p (.int .i64 0), .p (.int .i64 230)] (.p (.bool true)) :=
  told23_spec (T := txA) (C := [⟨4, 3, 0⟩, ⟨33, 0, 0⟩]) (.list txA) (.list _) (by decide) (by decide) (by decide +kernel)
theorem k21_told : pureF Tryd.prog 7 [.p (.int .u8 1), .p (.int .i64 1), .p (.list 1 (tP txA)), .p (.list 3 (cP [⟨3, 1, 0⟩, ⟨33, 0, 0⟩])), .p (.int .i64 0), .p (.int .i64 230)] (.p (.bool true)) :=
  told23_spec (T := txA) (C := [⟨3, 1, 0⟩, ⟨33, 0, 0⟩]) (.list txA) (.list _) (by decide) (by decide) (by decide +kernel)
theorem k22_told : pureF Tryd.prog 7 [.p (.int .u8 1), .p (.int .i64 1), .p (.list 1 (tP txA)), .p (.list 3 (cP [⟨1, 4, 0⟩, ⟨33, 0, 0⟩])), .p (.int .i64 0), .p (.int .i64 230)] (.p (.bool true)) :=
  told23_spec (T := txA) (C := [⟨1, 4, 0⟩, ⟨33, 0, 0⟩]) (.list txA) (.list _) (by decide) (by decide) (by decide +kernel)
theorem k23_told : pureF Tryd.prog 7 [.p (.int .u8 1), .p (.int .i64 2), .p (.nils), .p (.list 3 (cP [⟨24, 0, 0⟩, ⟨28, 3, 0⟩, ⟨24, 0, 0⟩, ⟨28, 4, 0⟩, ⟨33, 0, 0⟩])), .p (.int .i64 3), .p (.int .i64 230)] (.p (.bool true)) :=
  told23_spec (T := []) (C := [⟨24, 0, 0⟩, ⟨28, 3, 0⟩, ⟨24, 0, 0⟩, ⟨28, 4, 0⟩, ⟨33, 0, 0⟩]) .nils (.list _) (by decide) (by decide) (by decide +kernel)
theorem k24_told : pureF Tryd.prog 7 [.p (.int .u8 1), .p (.int .i64 1), .p (.nils), .p (.list 3 (cP [⟨24, 0, 0⟩, ⟨26, 3, 0⟩, ⟨24, 0, 0⟩, ⟨28, 4, 0⟩, ⟨33, 0, 0⟩])), .p (.int .i64 0), .p (.int .i64 0)] (.p (.bool true)) :=
  told23_spec (T := []) (C := [⟨24, 0, 0⟩, ⟨26, 3, 0⟩, ⟨24, 0, 0⟩, ⟨28, 4, 0⟩, ⟨33, 0, 0⟩]) .nils (.list _) (by decide) (by decide) (by decide +kernel)
theorem k25_told : pureF Tryd.prog 7 [.p (.int .u8 1), .p (.int .i64 0), .p (.nils), .p (.list 3 (cP [⟨33, 0, 0⟩, ⟨33, 0, 0⟩])), .p (.int .i64 0), .p (.int .i64 230)] (.p (.bool true)) :=
  told23_spec (T := []) (C := [⟨33, 0, 0⟩, ⟨33, 0, 0⟩]) .nils (.list _) (by decide) (by decide) (by decide +kernel)
theorem k26_told : pureF Tryd.prog 7 [.p (.int .u8 0), .p (.int .i64 0), .p (.nils), .p (.nils), .p (.int .i64 0), .p (.int .i64 210)] (.p (.bool true)) :=
  told23_spec (T := []) (C := []) .nils .nils (by decide) (by decide) (by decide +kernel)
theorem k27_told : pureF Tryd.prog 7 [.p (.int .u8 1), .p (.int .i64 1025), .p (.nils), .p (.list 3 (cP [⟨33, 0, 0⟩])), .p (.int .i64 0), .p (.int .i64 3)] (.p (.bool true)) :=
  told23_spec (T := []) (C := [⟨33, 0, 0⟩]) .nils (.list _) (by decide) (by decide) (by decide +kernel)
theorem k28_told : pureF Tryd.prog 7 [.p (.int .u8 2), .p (.int .i64 1025), .p (.nils), .p (.nils), .p (.int .i64 0), .p (.int .i64 230)] (.p (.bool true)) :=
  told23_spec (T := []) (C := []) .nils .nils (by decide) (by decide) (by decide +kernel)
theorem k29_told : pureF Tryd.prog 7 [.p (.int .u8 1), .p (.int .i64 2), .p (.list 1 (tP txA)), .p (.list 3 (cP [⟨2, 1, 0⟩, ⟨3, 2, 0⟩, ⟨10, 0, 0⟩, ⟨2, 1, 0⟩, ⟨18, 0, 0⟩, ⟨28, 6, 0⟩, ⟨33, 0, 0⟩])), .p (.int .i64 0), .p (.int .i64 0)] (.p (.bool true)) :=
  told23_spec (T := txA) (C := [⟨2, 1, 0⟩, ⟨3, 2, 0⟩, ⟨10, 0, 0⟩, ⟨2, 1, 0⟩, ⟨18, 0, 0⟩, ⟨28, 6, 0⟩, ⟨33, 0, 0⟩]) (.list txA) (.list _) (by decide) (by decide) (by decide +kernel)
theorem k30_told : pureF Tryd.prog 7 [.p (.int .u8 1), .p (.int .i64 2), .p (.list 1 (tP txA)), .p (.list 3 (cP [⟨2, 1, 0⟩, ⟨1, 0, 0⟩, ⟨16, 0, 0⟩, ⟨33, 0, 0⟩])), .p (.int .i64 2), .p (.int .i64 230)] (.p (.bool true)) :=
  told23_spec (T := txA) (C := [⟨2, 1, 0⟩, ⟨1, 0, 0⟩, ⟨16, 0, 0⟩, ⟨33, 0, 0⟩]) (.list txA) (.list _) (by decide) (by decide) (by decide +kernel)
theorem k31_told : pureF Tryd.prog 7 [.p (.int .u8 1), .p (.int .i64 2), .p (.nils), .p (.list 3 (cP [⟨29, 4, 0⟩, ⟨29, 5, 0⟩, ⟨30, 0, 0⟩, ⟨30, 0, 0⟩, ⟨29, 6, 0⟩, ⟨30, 0, 0⟩, ⟨33, 0, 0⟩])), .p (.int .i64 5), .p (.int .i64 230)] (.p (.bool true)) :=
  told23_spec (T := []) (C := [⟨29, 4, 0⟩, ⟨29, 5, 0⟩, ⟨30, 0, 0⟩, ⟨30, 0, 0⟩, ⟨29, 6, 0⟩, ⟨30, 0, 0⟩, ⟨33, 0, 0⟩]) .nils (.list _) (by decide) (by decide) (by decide +kernel)
theorem k32_told : pureF Tryd.prog 7 [.p (.int .u8 1), .p (.int .i64 2), .p (.nils), .p (.list 3 (cP [⟨29, 4, 0⟩, ⟨24, 0, 0⟩, ⟨28, 5, 0⟩, ⟨30, 0, 0⟩, ⟨29, 6, 0⟩, ⟨30, 0, 0⟩, ⟨33, 0, 0⟩])), .p (.int .i64 5), .p (.int .i64 230)] (.p (.bool true)) :=
  told23_spec (T := []) (C := [⟨29, 4, 0⟩, ⟨24, 0, 0⟩, ⟨28, 5, 0⟩, ⟨30, 0, 0⟩, ⟨29, 6, 0⟩, ⟨30, 0, 0⟩, ⟨33, 0, 0⟩]) .nils (.list _) (by decide) (by decide) (by decide +kernel)
theorem k33_told : pureF Tryd.prog 7 [.p (.int .u8 1), .p (.int .i64 2), .p (.nils), .p (.list 3 (cP [⟨29, 4, 0⟩, ⟨29, 3, 0⟩, ⟨30, 0, 0⟩, ⟨30, 0, 0⟩, ⟨33, 0, 0⟩])), .p (.int .i64 0), .p (.int .i64 0)] (.p (.bool true)) :=
  told23_spec (T := []) (C := [⟨29, 4, 0⟩, ⟨29, 3, 0⟩, ⟨30, 0, 0⟩, ⟨30, 0, 0⟩, ⟨33, 0, 0⟩]) .nils (.list _) (by decide) (by decide) (by decide +kernel)
end Go.Proofs.YtgdimfogijfmiaaDoor.AD

namespace Go.Proofs.YtgdimfogijfmiaaDoor.AD
open Go.Proofs
set_option linter.unusedVariables false
set_option linter.unusedSimpArgs false
set_option maxRecDepth 100000

def guI (n i : Nat) : Ins := ⟨29, 2 * (n : Int) - i, 0⟩
def deepC (n : Nat) : List Ins := (List.range n).map (guI n) ++ (List.replicate n ⟨30, 0, 0⟩ ++ [⟨33, 0, 0⟩])
theorem deep_len (n : Nat) : (deepC n).length = 2 * n + 1 := by simp [deepC]; omega
theorem deep_guard {n i : Nat} (h : i < n) : (deepC n)[i]? = some (guI n i) := by
  rw [deepC, List.getElem?_append_left (by simpa using h), List.getElem?_map, List.getElem?_range h]; rfl
theorem deep_off {n j : Nat} (h : j < n) : (deepC n)[n + j]? = some ⟨30, 0, 0⟩ := by
  rw [deepC, List.getElem?_append_right (by simp), List.length_map, List.length_range, Nat.add_sub_cancel_left, List.getElem?_append_left (by simpa using h), List.getElem?_replicate, if_pos h]
theorem deep_end (n : Nat) : (deepC n)[2 * n]? = some ⟨33, 0, 0⟩ := by
  rw [deepC, List.getElem?_append_right (by simp; omega), List.length_map, List.length_range, List.getElem?_append_right (by simp; omega), List.length_replicate]
  rw [show 2 * n - n - n = 0 by omega]; rfl

def dSt (n i : Nat) : List Int := (List.range i).map fun (j : Nat) => 8 + (2 * (n : Int) - j)
def dPd (n i : Nat) : List (Int × List Int) := (List.range i).map fun (j : Nat) => (2 * (n : Int) - j, dSt n j)
theorem dSt_len (n i : Nat) : (dSt n i).length = i := by simp [dSt]
theorem dSt_succ (n i : Nat) : dSt n (i + 1) = dSt n i ++ [8 + (2 * (n : Int) - i)] := by simp [dSt, List.range_succ]
theorem dPd_succ (n i : Nat) : dPd n (i + 1) = dPd n i ++ [(2 * (n : Int) - i, dSt n i)] := by simp [dPd, List.range_succ]
theorem dPd_len (n i : Nat) : (dPd n i).length = i := by simp [dPd]

theorem pidx_cons (k : Int) (q : Int × List Int) (r : List (Int × List Int)) : pidx k (q :: r) = if q.1 = k then some 0 else (pidx k r).map (· + 1) := rfl
theorem pidx_append_none {k : Int} : ∀ {a : List (Int × List Int)} (b : List (Int × List Int)), pidx k a = none → pidx k (a ++ b) = (pidx k b).map (· + a.length)
  | [], b, _ => by simp
  | q :: r, b, h => by
    rw [List.cons_append, pidx_cons]
    rw [pidx_cons] at h
    by_cases e : q.1 = k
    · rw [if_pos e] at h; cases h
    · rw [if_neg e] at h ⊢
      have h' : pidx k r = none := by
        cases hp : pidx k r with
        | none => rfl
        | some j => rw [hp] at h; cases h
      rw [pidx_append_none b h']
      cases pidx k b with
      | none => rfl
      | some j => rfl
theorem dPd_none {n : Nat} {k : Int} : ∀ i : Nat, k < 2 * (n : Int) - i + 1 → pidx k (dPd n i) = none
  | 0, _ => rfl
  | i + 1, h => by
    rw [dPd_succ, pidx_append_none _ (dPd_none i (by push_cast at h; omega))]
    unfold pidx
    rw [if_neg (by push_cast at h; show ¬(2 * (n : Int) - i = k); omega)]
    rfl
theorem dPd_last (n i : Nat) : pidx (2 * (n : Int) - i) (dPd n (i + 1)) = some i := by
  rw [dPd_succ, pidx_append_none _ (dPd_none i (by omega))]
  unfold pidx
  rw [if_pos rfl, dPd_len]; simp

def pD (n : Nat) (S : Int) : Pg := ⟨1, [], deepC n, S⟩
theorem deep_step1 {n i : Nat} {S : Int} {hs : List Int} (h : i < n) :
    stepB (pD n S) (i : Int) ⟨dSt n i, dPd n i, hs, i⟩ = if (i : Int) + 1 ≤ S then some ⟨dSt n (i + 1), dPd n (i + 1), hs ++ [(i : Int)], ((i + 1 : Nat) : Int)⟩ else none := by
  have h1 : pidx (i : Int) (dPd n i) = none := dPd_none i (by omega)
  have h2 : pidx (2 * (n : Int) - i) (dPd n i) = none := dPd_none i (by omega)
  have h3 : (pD n S).C[(i : Int).toNat]? = some (guI n i) := by rw [Int.toNat_natCast]; exact deep_guard h
  have hl : ((pD n S).C.length : Int) = 2 * n + 1 := by show ((deepC n).length : Int) = _; rw [deep_len]; push_cast; rfl
  unfold stepB
  rw [h1]
  show tailB _ _ _ = _
  unfold tailB
  rw [h3]
  show (if endOp (guI n i) ≠ decide ((i : Int) = ((pD n S).C.length : Int) - 1) ∨ riskyB 29 (dSt n i) = true then none else _) = _
  rw [if_neg (by
    rw [hl, decide_eq_false (by omega)]
    intro e
    rcases e with e | e
    · exact e rfl
    · cases e)]
  have hg : goB (pD n S) (i : Int) (guI n i) ⟨dSt n i, dPd n i, hs ++ [((dSt n i).length : Int)], i⟩ = some ⟨dSt n (i + 1), dPd n (i + 1), hs ++ [(i : Int)], i⟩ := by
    unfold goB
    rw [if_pos (show (pD n S).κ = 1 from rfl)]
    have hf : ∀ l : List Int, forwardB (pD n S) (i : Int) (2 * (n : Int) - i) ⟨dSt n i, dPd n i, l, i⟩ = some ⟨dSt n i, dPd n (i + 1), l, i⟩ := fun l => by
      unfold forwardB
      rw [if_neg (by rw [hl]; omega)]
      show some (KS.mk _ (leadP (2 * (n : Int) - i) (dSt n i) (dPd n i)) _ _) = _
      unfold leadP
      rw [h2, dPd_succ]
    unfold condsB
    simp [guI, hf, KS.swap, dSt_succ, dSt_len]
  show (match goB (pD n S) (i : Int) (guI n i) ⟨dSt n i, dPd n i, hs ++ [((dSt n i).length : Int)], i⟩ with | none => none | some s' => _) = _
  rw [hg]
  show (if ((dSt n (i + 1)).length : Int) ≤ S then some (KS.mk (dSt n (i + 1)) (dPd n (i + 1)) (hs ++ [(i : Int)]) (if ((dSt n (i + 1)).length : Int) > (i : Int) then ((dSt n (i + 1)).length : Int) else (i : Int))) else none) = _
  rw [dSt_len]
  push_cast
  by_cases hS : (i : Int) + 1 ≤ S
  · rw [if_pos hS, if_pos hS, if_pos (by omega)]
  · rw [if_neg hS, if_neg hS]

theorem dSt_take (n m : Nat) : (dSt n (m + 1)).take m = dSt n m := by
  rw [dSt_succ, List.take_append_of_le_length (by rw [dSt_len]; exact Nat.le_refl _), List.take_of_length_le (by rw [dSt_len]; exact Nat.le_refl _)]
theorem dSt_top {n m : Nat} : topS (dSt n (m + 1)) 1 = 8 + (2 * (n : Int) - m) := by
  rw [topS, dSt_len, if_pos (by omega), dSt_succ, List.getD_eq_getElem?_getD, List.getElem?_append_right (by rw [dSt_len]; omega), dSt_len]
  simp
theorem dPd_at (n m : Nat) : (dPd n (m + 1))[m]? = some (2 * (n : Int) - m, dSt n m) := by
  rw [dPd_succ, List.getElem?_append_right (by rw [dPd_len]; exact Nat.le_refl _), dPd_len, Nat.sub_self]; rfl
theorem dPd_erase (n m : Nat) : (dPd n (m + 1)).eraseIdx m = dPd n m := by
  rw [dPd_succ]
  have h : ∀ (l : List (Int × List Int)) (x : Int × List Int) (k : Nat), l.length = k → (l ++ [x]).eraseIdx k = l := fun l x k h => by
    subst h
    induction l with
    | nil => rfl
    | cons y r ih => show y :: (r ++ [x]).eraseIdx r.length = _; rw [ih]
  exact h _ _ _ (dPd_len n m)

theorem deep_tail {n m j : Nat} {S : Int} {hs : List Int} {pd : List (Int × List Int)} (hm : m + 1 + j = n) (hS : (n : Int) ≤ S) :
    tailB (pD n S) ((n + j : Nat) : Int) ⟨dSt n (m + 1), pd, hs, n⟩ = some ⟨dSt n m, pd, hs ++ [((m + 1 : Nat) : Int)], n⟩ := by
  have h3 : (pD n S).C[((n + j : Nat) : Int).toNat]? = some ⟨30, 0, 0⟩ := by rw [Int.toNat_natCast]; exact deep_off (by omega)
  have hl : ((pD n S).C.length : Int) = 2 * n + 1 := by show ((deepC n).length : Int) = _; rw [deep_len]; push_cast; rfl
  unfold tailB
  rw [h3]
  show (if endOp ⟨30, 0, 0⟩ ≠ decide (((n + j : Nat) : Int) = ((pD n S).C.length : Int) - 1) ∨ riskyB 30 (dSt n (m + 1)) = true then none else _) = _
  rw [if_neg (by
    rw [hl, decide_eq_false (by omega)]
    intro e
    rcases e with e | e
    · exact e rfl
    · cases e)]
  have hg : goB (pD n S) ((n + j : Nat) : Int) ⟨30, 0, 0⟩ ⟨dSt n (m + 1), pd, hs ++ [((dSt n (m + 1)).length : Int)], n⟩ = some ⟨dSt n m, pd, hs ++ [((m + 1 : Nat) : Int)], n⟩ := by
    unfold goB
    rw [if_pos (show (pD n S).κ = 1 from rfl)]
    have hk : markK (topS (dSt n (m + 1)) 1) = true := by rw [dSt_top, markK]; exact decide_eq_true (by omega)
    unfold condsB
    simp [hk, KS.swap, dSt_len, dSt_take]
  show (match goB (pD n S) ((n + j : Nat) : Int) ⟨30, 0, 0⟩ ⟨dSt n (m + 1), pd, hs ++ [((dSt n (m + 1)).length : Int)], n⟩ with | none => none | some s' => _) = _
  rw [hg]
  show (if ((dSt n m).length : Int) ≤ S then some (KS.mk (dSt n m) pd (hs ++ [((m + 1 : Nat) : Int)]) (if ((dSt n m).length : Int) > (n : Int) then ((dSt n m).length : Int) else (n : Int))) else none) = _
  rw [dSt_len, if_pos (by omega), if_neg (by omega)]
theorem deep_off0 {n m : Nat} {S : Int} {hs : List Int} (hm : m + 1 = n) (hS : (n : Int) ≤ S) :
    stepB (pD n S) ((n + 0 : Nat) : Int) ⟨dSt n (m + 1), dPd n (m + 1), hs, n⟩ = some ⟨dSt n m, dPd n (m + 1), hs ++ [((m + 1 : Nat) : Int)], n⟩ := by
  have h1 : pidx ((n + 0 : Nat) : Int) (dPd n (m + 1)) = none := dPd_none (m + 1) (by push_cast; omega)
  unfold stepB
  rw [h1]
  exact deep_tail (by omega) hS
theorem deep_ne (n m : Nat) : dSt n m ≠ [0] := fun e => by
  have h := congrArg List.length e
  rw [dSt_len] at h
  have hm : m = 1 := by simpa using h
  subst hm
  rw [dSt_succ] at e
  simp [dSt] at e
  omega
theorem deep_off1 {n m j : Nat} {S : Int} {hs : List Int} (hm : m + 1 + j = n) (hS : (n : Int) ≤ S) :
    stepB (pD n S) ((n + j : Nat) : Int) ⟨dSt n (m + 1), dPd n (m + 2), hs, n⟩ = some ⟨dSt n m, dPd n (m + 1), hs ++ [((m + 1 : Nat) : Int)], n⟩ := by
  have h1 : pidx ((n + j : Nat) : Int) (dPd n (m + 2)) = some (m + 1) := by
    rw [show ((n + j : Nat) : Int) = 2 * (n : Int) - ((m + 1 : Nat) : Int) by push_cast; omega]
    exact dPd_last n (m + 1)
  unfold stepB
  rw [h1]
  have e : ((some (m + 1)).bind fun j => ((dPd n (m + 2))[j]?).map fun q => (j, q.2)) = some (m + 1, dSt n (m + 1)) := by
    show ((dPd n (m + 2))[m + 1]?).map _ = _
    rw [dPd_at]; rfl
  show (match ((some (m + 1)).bind fun j => ((dPd n (m + 2))[j]?).map fun q => (j, q.2)) with | none => _ | some (j, l) => _) = _
  rw [e]
  show (if dSt n (m + 1) ≠ dSt n (m + 1) ∨ dSt n (m + 1) = [0] then none else tailB (pD n S) ((n + j : Nat) : Int) ⟨dSt n (m + 1), (dPd n (m + 2)).eraseIdx (m + 1), hs, n⟩) = _
  rw [if_neg (fun e => e.elim (fun e => e rfl) (deep_ne n (m + 1))), dPd_erase]
  exact deep_tail hm hS
theorem deep_fin {n : Nat} {S : Int} {hs : List Int} (hn : 1 ≤ n) (hS : (n : Int) ≤ S) :
    stepB (pD n S) ((n + n : Nat) : Int) ⟨dSt n 0, dPd n 1, hs, n⟩ = some ⟨[], [], hs ++ [0], n⟩ := by
  have h1 : pidx ((n + n : Nat) : Int) (dPd n 1) = some 0 := by
    rw [show ((n + n : Nat) : Int) = 2 * (n : Int) - ((0 : Nat) : Int) by push_cast; omega]
    exact dPd_last n 0
  have h3 : (pD n S).C[((n + n : Nat) : Int).toNat]? = some ⟨33, 0, 0⟩ := by rw [Int.toNat_natCast, show n + n = 2 * n by omega]; exact deep_end n
  have hl : ((pD n S).C.length : Int) = 2 * n + 1 := by show ((deepC n).length : Int) = _; rw [deep_len]; push_cast; rfl
  unfold stepB
  rw [h1]
  show tailB (pD n S) ((n + n : Nat) : Int) ⟨[], [], hs, n⟩ = _
  unfold tailB
  rw [h3]
  show (if endOp ⟨33, 0, 0⟩ ≠ decide (((n + n : Nat) : Int) = ((pD n S).C.length : Int) - 1) ∨ riskyB 33 [] = true then none else _) = _
  rw [if_neg (by
    rw [hl, decide_eq_true (by push_cast; omega)]
    intro e
    rcases e with e | e
    · exact e rfl
    · cases e)]
  show (if ((([] : List Int).length : Nat) : Int) ≤ S then some (KS.mk [] [] (hs ++ [0]) (if ((([] : List Int).length : Nat) : Int) > (n : Int) then _ else (n : Int))) else none) = _
  rw [if_pos (by simp; omega), if_neg (by simp)]

theorem deep_run1 {n : Nat} {S : Int} (hS : (n : Int) ≤ S) (r : Nat) : ∀ (k i : Nat) (hs : List Int), i + k = n → ∃ hs', runB (pD n S) (k + r) i ⟨dSt n i, dPd n i, hs, i⟩ = runB (pD n S) r n ⟨dSt n n, dPd n n, hs', n⟩
  | 0, i, hs, h => by
    have e : i = n := by omega
    subst e
    exact ⟨hs, by rw [Nat.zero_add]⟩
  | k + 1, i, hs, h => by
    obtain ⟨hs', ih⟩ := deep_run1 hS r k (i + 1) (hs ++ [(i : Int)]) (by omega)
    refine ⟨hs', ?_⟩
    rw [← ih, show k + 1 + r = (k + r) + 1 by omega]
    conv => lhs; unfold runB
    rw [deep_step1 (by omega), if_pos (by omega)]
theorem deep_run2 {n : Nat} {S : Int} (hn : 1 ≤ n) (hS : (n : Int) ≤ S) : ∀ (m j : Nat) (hs : List Int), m + j = n → 1 ≤ j → ∃ hs', runB (pD n S) (m + 1) (n + j) ⟨dSt n m, dPd n (m + 1), hs, n⟩ = (⟨[], [], hs', n⟩, none)
  | 0, j, hs, h, hj => ⟨hs ++ [0], by
    obtain rfl : j = n := by omega
    unfold runB
    rw [deep_fin hn hS]
    rfl⟩
  | m + 1, j, hs, h, hj => by
    obtain ⟨hs', ih⟩ := deep_run2 hn hS m (j + 1) (hs ++ [((m + 1 : Nat) : Int)]) (by omega) (by omega)
    refine ⟨hs', ?_⟩
    rw [← ih]
    conv => lhs; unfold runB
    rw [deep_off1 (by omega) hS]
    rfl
end Go.Proofs.YtgdimfogijfmiaaDoor.AD

namespace Go.Proofs.YtgdimfogijfmiaaDoor.AD
open Go.Proofs
set_option linter.unusedVariables false
set_option linter.unusedSimpArgs false
set_option maxRecDepth 100000

theorem deep_run {n : Nat} {S : Int} (r : Nat) : ∀ (k i : Nat) (hs : List Int), i + k ≤ n → ((i + k : Nat) : Int) ≤ S → ∃ hs', runB (pD n S) (k + r) i ⟨dSt n i, dPd n i, hs, i⟩ = runB (pD n S) r (i + k) ⟨dSt n (i + k), dPd n (i + k), hs', (i + k : Nat)⟩
  | 0, i, hs, h, _ => ⟨hs, by rw [Nat.zero_add]; rfl⟩
  | k + 1, i, hs, h, hS => by
    obtain ⟨hs', ih⟩ := deep_run (n := n) (S := S) r k (i + 1) (hs ++ [(i : Int)]) (by omega) (by rw [show i + 1 + k = i + (k + 1) by omega]; exact hS)
    refine ⟨hs', ?_⟩
    rw [show i + 1 + k = i + (k + 1) by omega] at ih
    rw [← ih, show k + 1 + r = (k + r) + 1 by omega]
    conv => lhs; unfold runB
    rw [deep_step1 (by omega), if_pos (by push_cast at hS; omega)]

theorem deep_good {n m : Nat} {S : Int} (hn : n = m + 1) (hS : S = n) : ∃ hs', runB (pD n S) (2 * n + 1) 0 ks0 = (⟨[], [], hs', n⟩, none) := by
  subst hn; subst hS
  obtain ⟨hs1, h1⟩ := deep_run (n := m + 1) (S := ((m + 1 : Nat) : Int)) (m + 1 + 1) (m + 1) 0 [] (by omega) (by rw [Nat.zero_add]; exact Int.le_refl _)
  obtain ⟨hs2, h2⟩ := deep_run2 (n := m + 1) (S := ((m + 1 : Nat) : Int)) (by omega) (Int.le_refl _) m 1 (hs1 ++ [((m + 1 : Nat) : Int)]) (by omega) (Nat.le_refl _)
  refine ⟨hs2, ?_⟩
  rw [Nat.zero_add] at h1
  rw [show 2 * (m + 1) + 1 = m + 1 + (m + 1 + 1) by omega]
  refine Eq.trans h1 ?_
  rw [← h2]
  conv => lhs; unfold runB
  have := deep_off0 (n := m + 1) (m := m) (S := ((m + 1 : Nat) : Int)) (hs := hs1) rfl (Int.le_refl _)
  rw [Nat.add_zero] at this
  rw [this]
theorem deep_bad {n m : Nat} {S : Int} (hn : n = m + 1) (hS : S = m) : ∃ s, runB (pD n S) (2 * n + 1) 0 ks0 = (s, some m) := by
  subst hn; subst hS
  obtain ⟨hs1, h1⟩ := deep_run (n := m + 1) (S := (m : Int)) (m + 2 + 1) m 0 [] (by omega) (by rw [Nat.zero_add]; exact Int.le_refl _)
  rw [Nat.zero_add] at h1
  refine ⟨⟨dSt (m + 1) m, dPd (m + 1) m, hs1, m⟩, ?_⟩
  rw [show 2 * (m + 1) + 1 = m + (m + 2 + 1) by omega]
  refine Eq.trans h1 ?_
  conv => lhs; unfold runB
  rw [deep_step1 (by omega), if_neg (by omega)]

theorem deep_err1 : errP 1 [] (deepC 1024) 1024 = 0 := by decide +kernel
theorem deep_err2 : errP 1 [] (deepC 1024) 1023 = 0 := by decide +kernel
theorem walkB_some {p : Pg} {s : KS} {i : Nat} (h1 : errP p.κ p.T p.C p.S = 0) (h2 : ¬(p.κ = 1 ∧ p.S > 1024)) (h : runB p p.C.length 0 ks0 = (s, some i)) : walkB p = ([], (i : Int), 230) := by
  unfold walkB
  rw [if_neg (fun e => e h1), if_neg h2, h]
theorem walkB_none {p : Pg} {s : KS} (h1 : errP p.κ p.T p.C p.S = 0) (h2 : ¬(p.κ = 1 ∧ p.S > 1024)) (h : runB p p.C.length 0 ks0 = (s, none)) : walkB p = if p.C.length = 0 ∨ s.hi ≠ p.S then ([], (p.C.length : Int), 230) else (s.hs, 0, 0) := by
  unfold walkB
  rw [if_neg (fun e => e h1), if_neg h2, h]
theorem deep_walk1 : (walkB (pD 1024 1024)).2 = (0, 0) := by
  obtain ⟨hs', h⟩ := deep_good (n := 1024) (m := 1023) (S := 1024) (by omega) (by omega)
  rw [← deep_len] at h
  rw [walkB_none (p := pD 1024 1024) deep_err1 (fun e => absurd e.2 (by show ¬ (1024 : Int) > 1024; omega)) h]
  show (if (deepC 1024).length = 0 ∨ ((1024 : Nat) : Int) ≠ 1024 then (([] : List Int), ((deepC 1024).length : Int), (230 : Int)) else (hs', 0, 0)).2 = (0, 0)
  rw [if_neg (by
    intro e
    rcases e with e | e
    · rw [deep_len] at e; omega
    · exact e rfl)]
theorem deep_walk2 : (walkB (pD 1024 1023)).2 = (1023, 230) := by
  obtain ⟨s, h⟩ := deep_bad (n := 1024) (m := 1023) (S := 1023) (by omega) (by omega)
  rw [← deep_len] at h
  rw [walkB_some (p := pD 1024 1023) deep_err2 (fun e => absurd e.2 (by show ¬ (1023 : Int) > 1024; omega)) h]
  rfl
end Go.Proofs.YtgdimfogijfmiaaDoor.AD

namespace Go.Proofs.YtgdimfogijfmiaaDoor.AD
open Go.Proofs
set_option linter.unusedVariables false
set_option linter.unusedSimpArgs false
set_option maxRecDepth 100000

set_option maxHeartbeats 8000000 in
theorem VerifyKnown_spec : pureF Tryd.prog 3 [] (.p (.bool true)) := by
  refine pureF_nil_of (ps := []) f3_ok (.bool _) ?_
  (conv => whnf)
  refine CallVC.pureF k1_told rfl ?_
  (conv => whnf)
  refine splitB_t rfl ?_
  (conv => whnf)
  refine CallVC.pureF k2_told rfl ?_
  (conv => whnf)
  refine splitB_t rfl ?_
  (conv => whnf)
  refine CallVC.pureF k3_told rfl ?_
  (conv => whnf)
  refine splitB_t rfl ?_
  (conv => whnf)
  refine CallVC.pureF k4_told rfl ?_
  (conv => whnf)
  refine splitB_t rfl ?_
  (conv => whnf)
  refine CallVC.pureF k5_told rfl ?_
  (conv => whnf)
  refine CallVC.pureF k6_told rfl ?_
  (conv => whnf)
  refine splitB_t rfl ?_
  (conv => whnf)
  refine CallVC.pureF k7_told rfl ?_
  (conv => whnf)
  refine splitB_t rfl ?_
  (conv => whnf)
  refine CallVC.pureF k8_told rfl ?_
  (conv => whnf)
  refine CallVC.pureF k9_told rfl ?_
  (conv => whnf)
  refine splitB_t rfl ?_
  (conv => whnf)
  refine CallVC.pureF k10_told rfl ?_
  (conv => whnf)
  refine splitB_t rfl ?_
  (conv => whnf)
  refine CallVC.pureF k11_told rfl ?_
  (conv => whnf)
  refine CallVC.pureF k12_told rfl ?_
  (conv => whnf)
  refine splitB_t rfl ?_
  (conv => whnf)
  refine CallVC.pureF k13_told rfl ?_
  (conv => whnf)
  refine splitB_t rfl ?_
  (conv => whnf)
  refine CallVC.pureF k14_told rfl ?_
  (conv => whnf)
  refine splitB_t rfl ?_
  (conv => whnf)
  refine CallVC.pureF k15_told rfl ?_
  (conv => whnf)
  refine splitB_t rfl ?_
  (conv => whnf)
  refine CallVC.pureF k16_told rfl ?_
  (conv => whnf)
  refine CallVC.pureF k17_told rfl ?_
  (conv => whnf)
  refine splitB_t rfl ?_
  (conv => whnf)
  refine CallVC.pureF k18_told rfl ?_
  (conv => whnf)
  refine splitB_t rfl ?_
  (conv => whnf)
  refine CallVC.pureF k19_told rfl ?_
  (conv => whnf)
  refine splitB_t rfl ?_
  (conv => whnf)
  refine CallVC.pureF k20_told rfl ?_
  (conv => whnf)
  refine splitB_t rfl ?_
  (conv => whnf)
  refine CallVC.pureF k21_told rfl ?_
  (conv => whnf)
  refine splitB_t rfl ?_
  (conv => whnf)
  refine CallVC.pureF k22_told rfl ?_
  (conv => whnf)
  refine CallVC.pureF k23_told rfl ?_
  (conv => whnf)
  refine splitB_t rfl ?_
  (conv => whnf)
  refine CallVC.pureF k24_told rfl ?_
  (conv => whnf)
  refine splitB_t rfl ?_
  (conv => whnf)
  refine CallVC.pureF k25_told rfl ?_
  (conv => whnf)
  refine CallVC.pureF k26_told rfl ?_
  (conv => whnf)
  refine splitB_t rfl ?_
  (conv => whnf)
  refine CallVC.pureF k27_told rfl ?_
  (conv => whnf)
  refine splitB_t rfl ?_
  (conv => whnf)
  refine CallVC.pureF k28_told rfl ?_
  (conv => whnf)
  intro R hR
  have hmap : ∀ l : List Ins, (cP l).length = l.length := cP_len
  have key : ∀ (r g : Nat), g + 1 + r = 1024 → R [(1, .ref (.l 0) 0), (2, .ref (.l (0 + 1)) 0), (3, .p (.int .u8 1)), (6, .p (.list 1 [.str ⟨#[97]⟩, .str ⟨#[49]⟩, .str ⟨#[49, 46, 53]⟩, .str ⟨#[49, 97]⟩])), (7, .p (.bool true)), (8, .p (.bool true)), (9, .ref (.l (0 + 1 + 1 + 1 + 1)) 0), (10, .p (.bool true)), (11, .p (.bool true)), (12, .p (.bool true)), (13, .p (.bool true)), (14, .p (.bool true)), (15, .view (.l 5) g 3 (g + 1)), (16, .p (.int .i64 ((g + 1 : Nat) : Int)))] [] [.cells [.p (.int .u8 33), .p (.int .i64 0), .p (.int .i64 0)], .cells [.p (.int .u8 24), .p (.int .i64 0), .p (.int .i64 0)], .cells [.p (.int .u8 34), .p (.int .i64 0), .p (.int .i64 0)], .cells [.p (.int .u8 38), .p (.int .i64 0), .p (.int .i64 0)], .cells [.p (.int .u8 1), .p (.int .i64 0), .p (.int .i64 0)], .buf g 3 (cP ((List.range (g + 1)).map (guI 1024)))] := by
    intro r
    induction r with
    | zero =>
      intro g hg
      refine hR _ _ _ ?_
      (conv => whnf)
      refine splitB_f (decide_eq_false (by omega)) ?_
      have hg : g = 1023 := by omega
      subst hg
      generalize hG : (List.range (1023 + 1)).map (guI 1024) = G
      have hGl : G.length = 1024 := by rw [← hG]; simp
      (conv => whnf)
      intro R2 hR2
      have key2 : ∀ (r j : Nat), j + r = 1024 → R2 [(1, .ref (.l 0) 0), (2, .ref (.l (0 + 1)) 0), (3, .p (.int .u8 1)), (6, .p (.list 1 [.str ⟨#[97]⟩, .str ⟨#[49]⟩, .str ⟨#[49, 46, 53]⟩, .str ⟨#[49, 97]⟩])), (7, .p (.bool true)), (8, .p (.bool true)), (9, .ref (.l (0 + 1 + 1 + 1 + 1)) 0), (10, .p (.bool true)), (11, .p (.bool true)), (12, .p (.bool true)), (13, .p (.bool true)), (14, .p (.bool true)), (15, .view (.l 5) (1023 + j) 3 (1024 + j)), (17, .p (.int .i64 j))] [] [.cells [.p (.int .u8 33), .p (.int .i64 0), .p (.int .i64 0)], .cells [.p (.int .u8 24), .p (.int .i64 0), .p (.int .i64 0)], .cells [.p (.int .u8 34), .p (.int .i64 0), .p (.int .i64 0)], .cells [.p (.int .u8 38), .p (.int .i64 0), .p (.int .i64 0)], .cells [.p (.int .u8 1), .p (.int .i64 0), .p (.int .i64 0)], .buf (1023 + j) 3 (cP (G ++ List.replicate j ⟨30, 0, 0⟩))] := by
        intro r
        induction r with
        | zero =>
          intro j hj
          have hj : j = 1024 := by omega
          subst hj
          have hD : (cP (G ++ List.replicate 1024 ⟨30, 0, 0⟩)).take (1024 + 1024) ++ [insP ⟨33, 0, 0⟩] = cP (deepC 1024) := by
            rw [List.take_of_length_le (by rw [cP_len]; simp [hGl]), deepC, ← hG]
            simp [cP]
          have hB : (cP (G ++ List.replicate 1024 ⟨30, 0, 0⟩)).length = 2048 := by rw [cP_len]; simp [hGl]
          have hDl : (cP (deepC 1024)).length = 2049 := by rw [cP_len, deep_len]
          have d1 := told23_spec (κ := 1) (S := 1024) (at_ := 0) (e := 0) (T := []) (C := deepC 1024) .nils (.list _) (by simp) (by rw [deep_len]; omega) deep_walk1
          have d2 := told23_spec (κ := 1) (S := 1023) (at_ := 1023) (e := 230) (T := []) (C := deepC 1024) .nils (.list _) (by simp) (by rw [deep_len]; omega) deep_walk2
          generalize hBB : cP (G ++ List.replicate 1024 ⟨30, 0, 0⟩) = B at *
          generalize hDD : cP (deepC 1024) = D at *
          have hT : D.take 2049 = D := List.take_of_length_le (by omega)
          have hv : ∀ (lo : List Ob) (g len : Nat), findO [] lo (.l 5) = some (.buf g 3 D) → len = 2049 → Lend [] lo (.view (.l 5) g 3 len) (.list 3 D) := fun lo g len h1 h2 => by
            subst h2
            have := Lend.view (ba := []) (lo := lo) (.l 5) g 3 2049 D h1 (by omega)
            rw [hT] at this
            exact this
          refine hR2 _ _ _ ?_
          (conv => whnf)
          refine splitB_f (decide_eq_false (by omega)) ?_
          (conv => whnf)
          refine ⟨rfl, ⟨rfl, rfl, rfl, by omega⟩, by simp [room], _, hD, ?_⟩
          (conv => whnf)
          refine CallVC.lend (ps := [.int .u8 1, .int .i64 1024, .nils, .list 3 D, .int .i64 0, .int .i64 0]) d1 (.bool _) (.cons _ _ _ _ (.p _) (.cons _ _ _ _ (.p _) (.cons _ _ _ _ (.p _) (.cons _ _ _ _ (hv _ _ _ rfl rfl) (.cons _ _ _ _ (.p _) (.cons _ _ _ _ (.p _) .nil)))))) ?_
          (conv => whnf)
          refine splitB_t rfl ?_
          (conv => whnf)
          refine CallVC.lend (ps := [.int .u8 1, .int .i64 1023, .nils, .list 3 D, .int .i64 1023, .int .i64 230]) d2 (.bool _) (.cons _ _ _ _ (.p _) (.cons _ _ _ _ (.p _) (.cons _ _ _ _ (.p _) (.cons _ _ _ _ (hv _ _ _ rfl rfl) (.cons _ _ _ _ (.p _) (.cons _ _ _ _ (.p _) .nil)))))) ?_
          (conv => whnf)
          refine CallVC.pureF k29_told rfl ?_
          (conv => whnf)
          refine splitB_t rfl ?_
          (conv => whnf)
          refine CallVC.pureF k30_told rfl ?_
          (conv => whnf)
          refine CallVC.pureF k31_told rfl ?_
          (conv => whnf)
          refine splitB_t rfl ?_
          (conv => whnf)
          refine CallVC.pureF k32_told rfl ?_
          (conv => whnf)
          refine splitB_t rfl ?_
          (conv => whnf)
          refine CallVC.pureF k33_told rfl ?_
          (conv => whnf)
          iterate 10
            refine splitB_t rfl ?_
            (conv => whnf)
          refine CallVC.pureF works23_spec rfl ?_
          (conv => whnf)
          exact ⟨rfl, rfl⟩
        | succ r ih =>
          intro j hj
          have hlen : (cP (G ++ List.replicate j ⟨30, 0, 0⟩)).length = 1024 + j := by rw [cP_len]; simp [hGl]
          have hnext : (cP (G ++ List.replicate j ⟨30, 0, 0⟩)).take (1024 + j) ++ [insP ⟨30, 0, 0⟩] = cP (G ++ List.replicate (j + 1) ⟨30, 0, 0⟩) := by
            rw [List.take_of_length_le (by omega), List.replicate_succ']
            simp [cP]
          have hih := ih (j + 1) (by omega)
          generalize hBB : cP (G ++ List.replicate j ⟨30, 0, 0⟩) = B at *
          refine hR2 _ _ _ ?_
          (conv => whnf)
          refine splitB_t (decide_eq_true (by omega)) ?_
          (conv => whnf)
          refine ⟨rfl, ⟨rfl, rfl, rfl, by omega⟩, by simp [room]; omega, _, hnext, ?_⟩
          (conv => whnf)
          rw [IntWalk.i64_in _ (by omega)]
          exact hih
      have m := key2 1024 0 rfl
      rw [List.replicate_zero, List.append_nil] at m
      exact m
    | succ r ih =>
      intro g hg
      have hlen : (cP ((List.range (g + 1)).map (guI 1024))).length = g + 1 := by rw [cP_len]; simp
      have hnext : (cP ((List.range (g + 1)).map (guI 1024))).take (g + 1) ++ [insP (guI 1024 (g + 1))] = cP ((List.range (g + 1 + 1)).map (guI 1024)) := by
        rw [List.take_of_length_le (by omega), List.range_succ (n := g + 1)]
        simp [cP]
      have hih := ih (g + 1) (by omega)
      generalize hG : cP ((List.range (g + 1)).map (guI 1024)) = G at *
      refine hR _ _ _ ?_
      (conv => whnf)
      refine splitB_t (decide_eq_true (by omega)) ?_
      (conv => whnf)
      rw [IntWalk.i64_in _ (by omega)]
      refine ⟨rfl, ⟨rfl, rfl, rfl, by omega⟩, by simp [room]; omega, _, hnext, ?_⟩
      (conv => whnf)
      rw [IntWalk.i64_in _ (by omega)]
      exact hih
  refine hR _ _ _ ?_
  (conv => whnf)
  refine splitB_t rfl ?_
  (conv => whnf)
  rw [IntWalk.i64_in _ (by omega)]
  refine ⟨rfl, by simp [room], ?_⟩
  (conv => whnf)
  rw [IntWalk.i64_in _ (by omega)]
  exact key 1023 0 rfl
end Go.Proofs.YtgdimfogijfmiaaDoor.AD
