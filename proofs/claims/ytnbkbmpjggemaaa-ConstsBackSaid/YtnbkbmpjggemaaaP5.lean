/- Chapter 17: a body that is one text, or a constant's name; the law ConstsUnlike, plainly. -/
import Derived.Test.YtnbkbmpjggemaaaP3
namespace Go.Proofs.Ytnbkbmpjggemaaa.AD
open Go.Proofs
set_option linter.unusedVariables false
set_option linter.unusedSimpArgs false
set_option maxRecDepth 100000

def oneT (N : Nat) (l : List Cn) : List Tok → ByteArray × Nat × Int
  | [] => (⟨#[]⟩, N, 150)
  | x :: r => if ¬ ((if x.k = 1 then findV l x.t else (x.t, decide (x.k = 4))).2 = true) then (⟨#[]⟩, x.a, 150) else
    match r with
    | [] => ((if x.k = 1 then findV l x.t else (x.t, decide (x.k = 4))).1, 0, 0)
    | y :: _ => (⟨#[]⟩, y.a, 150)
def oneR (s : ByteArray) (l : List Cn) : ByteArray × Nat × Int := match tokensR s with
  | .err p e => (⟨#[]⟩, p, e)
  | .ok ts => oneT s.size l ts
def resO (x : ByteArray × Nat × Int) : PV := .tup [.str x.1, .int .i64 x.2.1, .int .i64 x.2.2]

theorem One_spec (s : ByteArray) (hs : (s.size : Int) ≤ 9223372036854775807) (l : List Cn) (hl : l.length ≤ 65536) : pureF Try.prog 12 [.p (.str s), .p (.list 2 (l.map cnP))] (.p (resO (oneR s l))) := by
  refine pureF_of f12_ok fun H => ?_
  have hT := Tokens_spec s hs
  unfold oneR
  cases hR : tokensR s with
  | err p e =>
    rw [hR] at hT
    obtain ⟨he, hp⟩ := tokensR_err hR
    (conv => whnf)
    refine CallVC.pureF hT rfl ?_
    (conv => whnf)
    refine splitB_t (by rcases he with rfl | rfl | rfl | rfl <;> rfl) ?_
    (conv => whnf)
    exact ⟨rfl, rfl⟩
  | ok ts =>
    rw [hR] at hT
    have hlen := tokensR_len hR
    simp only
    (conv => whnf)
    refine CallVC.pureF hT rfl ?_
    (conv => whnf)
    refine splitB_f rfl ?_
    cases ts with
    | nil =>
      (conv => whnf)
      refine splitB_t rfl ?_
      (conv => whnf)
      exact ⟨rfl, rfl⟩
    | cons x r =>
      have hr1 : (r.length : Int) + 1 = ((r.length + 1 : Nat) : Int) := by omega
      have hmr : ((x :: r).map tkP).length = r.length + 1 := by simp
      (conv => whnf)
      refine splitB_f (beq_eq_false_iff_ne.2 (by omega)) ?_
      (conv => whnf)
      refine ⟨rfl, tkP x, ⟨by decide, rfl⟩, ?_⟩
      (conv => whnf)
      refine ⟨rfl, tkP x, ⟨by decide, rfl⟩, ?_⟩
      (conv => whnf)
      refine ⟨rfl, tkP x, ⟨by decide, rfl⟩, ?_⟩
      (conv => whnf)
      by_cases hk1 : x.k = 1
      · refine splitB_t (by rw [hk1]; rfl) ?_
        (conv => whnf)
        refine CallVC.pureF (Find_spec l x.t hl) rfl ?_
        (conv => whnf)
        simp only [oneT]
        rw [if_pos hk1]
        cases hf : (findV l x.t).2 with
        | false =>
          refine splitB_t rfl ?_
          (conv => whnf)
          refine ⟨rfl, tkP x, ⟨by decide, rfl⟩, ?_⟩
          (conv => whnf)
          exact ⟨rfl, rfl⟩
        | true =>
          refine splitB_f rfl ?_
          cases r with
          | nil =>
            (conv => whnf)
            refine splitB_f rfl ?_
            (conv => whnf)
            exact ⟨rfl, rfl⟩
          | cons y r =>
            (conv => whnf)
            refine splitB_t (decide_eq_true (by simp only [List.map_cons, List.length_cons]; omega)) ?_
            (conv => whnf)
            refine ⟨rfl, tkP y, ⟨by decide, rfl⟩, ?_⟩
            (conv => whnf)
            exact ⟨rfl, rfl⟩
      · refine splitB_f (beq_eq_false_iff_ne.2 hk1) ?_
        (conv => whnf)
        simp only [oneT]
        rw [if_neg hk1]
        by_cases hk4 : x.k = 4
        · refine splitB_f (by rw [hk4]; rfl) ?_
          rw [decide_eq_true hk4]
          cases r with
          | nil =>
            (conv => whnf)
            refine splitB_f rfl ?_
            (conv => whnf)
            exact ⟨rfl, rfl⟩
          | cons y r =>
            (conv => whnf)
            refine splitB_t (decide_eq_true (by simp only [List.map_cons, List.length_cons]; omega)) ?_
            (conv => whnf)
            refine ⟨rfl, tkP y, ⟨by decide, rfl⟩, ?_⟩
            (conv => whnf)
            exact ⟨rfl, rfl⟩
        · refine splitB_t (by rw [beq_eq_false_iff_ne.2 hk4]; rfl) ?_
          rw [decide_eq_false hk4]
          (conv => whnf)
          refine ⟨rfl, tkP x, ⟨by decide, rfl⟩, ?_⟩
          (conv => whnf)
          exact ⟨rfl, rfl⟩

/-! ### plainly -/
theorem nextP_nameLen {c : UInt8} {r : List UInt8} {t : ByteArray} {len : Nat} (h : nextP (c :: r) = .tok 1 t len) : t.size = len := by
  simp only [nextP] at h
  split at h
  · cases h
    have := whileL_le nam (c :: r)
    rw [ba_size, ofL_data, List.length_take]
    omega
  split at h
  · have := numL_kind (c :: r)
    simp only [NR.tok.injEq] at h
    rw [h.1] at this
    rcases this with e | e | e <;> cases e
  split at h
  · have := strP_kind _ _ _ _ _ _ _ h
    cases this
  split at h <;> cases h

/-- What a constant's name is. -/
def GoodN (N : Nat) (c : Cn) : Prop := nameB c.n = true ∧ ¬ (c.n.data.toList.head? = some 95) ∧ c.n.size + 2 ≤ N
def UnlikeL (l : List Cn) : Prop := ∀ pre c post, l = pre ++ c :: post → known pre c.n = false
theorem unlike_snoc {acc : List Cn} {x : Cn} (h : UnlikeL acc) (hx : known acc x.n = false) : UnlikeL (acc ++ [x]) := by
  intro pre c post e
  rcases List.append_eq_append_iff.1 e with ⟨us, h1, h2⟩ | ⟨bs, h1, h2⟩
  · cases us with
    | nil =>
      rw [List.append_nil] at h1
      rw [List.nil_append, List.cons.injEq] at h2
      rw [h1, ← h2.1]; exact hx
    | cons a us =>
      rw [List.cons_append, List.cons.injEq] at h2
      have := h2.2
      simp at this
  · cases bs with
    | nil =>
      rw [List.append_nil] at h1
      rw [List.nil_append, List.cons.injEq] at h2
      rw [← h1, h2.1]; exact hx
    | cons b bs =>
      rw [List.cons_append, List.cons.injEq] at h2
      rw [h2.1]
      exact h pre b bs h1
theorem nameE_zero {x : Tok} {acc : List Cn} (h : nameE x acc = 0) : x.k = 1 ∧ ¬ (x.t.data.toList.head? = some 95) ∧ known acc x.t = false := by
  unfold nameE at h
  split at h
  · cases h
  rename_i h1
  split at h
  · cases h
  rename_i h2
  split at h
  · cases h
  rename_i h3
  exact ⟨Classical.byContradiction fun e => h1 (.inl e), h2, by cases hk : known acc x.t with | false => rfl | true => exact absurd hk h3⟩

theorem cG_good (N : Nat) (L : List UInt8) : ∀ (ts : List Tok) (acc l : List Cn) (e : Nat), cG N ts acc = .ok l → Tile L e ts → (∀ x, x ∈ ts → NameOk x ∧ Alone L x) → (∀ c, c ∈ acc → GoodN L.length c) → UnlikeL acc → (∀ c, c ∈ l → GoodN L.length c) ∧ UnlikeL l := by
  refine threes ?_ ?_ ?_ ?_
  · intro acc l e h _ _ hg hu; simp only [cG, CR.ok.injEq] at h; subst h; exact ⟨hg, hu⟩
  · intro x acc l e h; simp only [cG] at h; split at h <;> cases h
  · intro x y acc l e h; simp only [cG] at h; repeat' split at h
    all_goals cases h
  · intro x y z r ih acc l e h ht ha hg hu
    simp only [cG] at h
    split at h
    · cases h
    split at h
    · cases h
    split at h
    · cases h
    rename_i h1 _ _
    obtain ⟨k1, k2, k3⟩ := nameE_zero (Classical.byContradiction h1)
    obtain ⟨⟨x1, x2, x3⟩, _, _, ⟨y1, y2, y3⟩, _, _, ⟨z1, z2, z3⟩, _, _, ht'⟩ := ht
    obtain ⟨hn, c, w, a1, a2, a3, a4⟩ := ha x (by simp)
    rw [k1] at a2
    have hsz := nextP_nameLen a2
    refine ih _ _ z.e h ht' (fun u hu => ha u (by simp [hu])) (fun c hc => ?_) (unlike_snoc hu k3)
    rcases List.mem_append.1 hc with hc | hc
    · exact hg c hc
    · rw [List.mem_singleton.1 hc]
      exact ⟨hn k1, k2, by show x.t.size + 2 ≤ L.length; omega⟩
theorem constR_good {s : ByteArray} {l : List Cn} (h : constR s = .ok l) : (∀ c, c ∈ l → GoodN s.size c) ∧ UnlikeL l := by
  obtain ⟨_, _, ts, h1, h2, _⟩ := constR_ok h
  rw [ba_size]
  exact cG_good _ _ _ _ _ 0 h2 (tokensR_tile h1).2 (fun x hx => ⟨toks_name (tokS_of h1) x hx, (toks_alone _ _ _ _ (tokS_of h1) (by rw [Nat.zero_add]) x hx).1⟩) (fun c hc => by cases hc) (fun pre c post e => by simp at e)

theorem findV_at : ∀ (pre : List Cn) (c : Cn) (post : List Cn), known pre c.n = false → findV (pre ++ c :: post) c.n = (c.v, true)
  | [], c, post, _ => by simp [findV]
  | d :: pre, c, post, h => by
    simp only [known, List.any_cons, Bool.or_eq_false_iff, decide_eq_false_iff_not] at h
    rw [List.cons_append, findV, if_neg h.1]
    exact findV_at pre c post h.2

/-- A name with blanks around it. -/
theorem name_alone {n : ByteArray} (hn : nameB n = true) (hsz : n.size + 2 ≤ 65536) : tokensR (⟨#[32]⟩ ++ n ++ ⟨#[10]⟩) = .ok [⟨1, n, 1, 1 + n.size⟩] := by
  have hnl := ba_size n
  unfold nameB at hn
  cases hl : n.data.toList with
  | nil => rw [hl] at hn; cases hn
  | cons c w =>
    rw [hl] at hn hnl
    simp only [Bool.and_eq_true] at hn
    have hall : ∀ l : List UInt8, (l.all fun c => letterB c.toNat || digitB c.toNat) = true → whileL nam l = l.length := by
      intro l
      induction l with
      | nil => intro _; rfl
      | cons d r ih =>
        intro h
        rw [List.all_cons, Bool.and_eq_true] at h
        simp only [whileL]
        rw [if_pos h.1, ih h.2]; simp only [List.length_cons]
    have hw : whileL nam (c :: w) = (c :: w).length := hall _ (by rw [List.all_cons, hn.1, Bool.true_or, hn.2]; rfl)
    have hN : nextP (c :: w) = .tok 1 n (c :: w).length := by
      simp only [nextP]
      rw [if_pos (show lett c = true from hn.1), hw, List.take_length, ← hl, ofL_of]
    have hN2 : nextP (c :: (w ++ [10])) = .tok 1 n (c :: w).length := nextP_app (sep10 []) hN
    have hd : (⟨#[32]⟩ ++ n ++ ⟨#[10]⟩ : ByteArray).data.toList = 32 :: (c :: w ++ [10]) := by simp [ByteArray.data_append, hl]
    refine tokensR_of (by rw [ba_size, hd]; simp only [List.length_cons, List.length_append, List.length_nil] at hnl ⊢; omega) (by simp) ?_
    rw [hd]
    unfold TokS
    have hs : skipF false (32 :: (c :: w ++ [10])) = 1 := by
      have h0 : skipF false (c :: w ++ [10]) = 0 := by rw [List.cons_append]; exact nextP_head hN2 (w ++ [10])
      show (if (32 : UInt8) = 35 then _ else if _ then skipF false (c :: w ++ [10]) + 1 else 0) = 1
      rw [if_neg (by decide), if_pos (.inl rfl), h0]
    rw [hs]
    have hdr : (c :: (w ++ [10])).drop (c :: w).length = [10] := by rw [← List.cons_append, List.drop_left]
    have q := Toks.cons c (w ++ [10]) (0 + 1) 1 n (c :: w).length [] hN2 (by rw [hdr]; exact .nil _)
    rw [hnl]
    rw [Nat.zero_add] at q ⊢
    exact q
theorem one_name {n : ByteArray} (hn : nameB n = true) (hsz : n.size + 2 ≤ 65536) (l : List Cn) {v : ByteArray} (hv : findV l n = (v, true)) : oneR (⟨#[32]⟩ ++ n ++ ⟨#[10]⟩) l = (v, 0, 0) := by
  unfold oneR
  rw [name_alone hn hsz]
  simp only [oneT, if_true, hv, not_true_eq_false, if_false]

end Go.Proofs.Ytnbkbmpjggemaaa.AD
