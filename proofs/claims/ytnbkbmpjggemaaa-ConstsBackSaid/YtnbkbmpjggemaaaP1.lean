/- Chapter 17: constants, plainly. -/
import Derived.Test.YtnbkbmpjggemaaaK13
namespace Go.Proofs.Ytnbkbmpjggemaaa.AD
open Go.Proofs
set_option linter.unusedVariables false
set_option linter.unusedSimpArgs false
set_option maxRecDepth 100000

structure Cn where
  n : ByteArray
  v : ByteArray
def cnP (x : Cn) : PV := .agg [.str x.n, .str x.v]
inductive CR where
  | ok (l : List Cn)
  | err (p : Nat) (e : Int)
def trueS : ByteArray := ⟨#[116, 114, 117, 101]⟩
def falseS : ByteArray := ⟨#[102, 97, 108, 115, 101]⟩
def known (acc : List Cn) (t : ByteArray) : Bool := acc.any fun c => decide (c.n = t)
/-- What is wrong with the token that must be a new constant's name. -/
def nameE (x : Tok) (acc : List Cn) : Int :=
  if ¬ (x.k = 1) ∨ x.t = trueS ∨ x.t = falseS then 150
  else if x.t.data.toList.head? = some 95 then 171
  else if known acc x.t = true then 170
  else if acc.length = 256 then 3 else 0
def isEq (y : Tok) : Prop := y.k = 6 ∧ y.t = ⟨#[61]⟩
instance (y : Tok) : Decidable (isEq y) := by unfold isEq; infer_instance
def cG (N : Nat) : List Tok → List Cn → CR
  | [], acc => .ok acc
  | [x], acc => if ¬ (nameE x acc = 0) then .err x.a (nameE x acc) else .err N 150
  | [x, y], acc => if ¬ (nameE x acc = 0) then .err x.a (nameE x acc) else if ¬ isEq y then .err y.a 150 else .err N 150
  | x :: y :: z :: r, acc => if ¬ (nameE x acc = 0) then .err x.a (nameE x acc) else if ¬ isEq y then .err y.a 150 else if ¬ (z.k = 4) then .err z.a 150 else cG N r (acc ++ [⟨x.t, z.t⟩])
def constR (s : ByteArray) : CR := match tokensR s with
  | .err p e => .err p e
  | .ok ts => cG s.size ts []
def resC : CR → PV
  | .ok l => .tup [.list 2 (l.map cnP), .int .i64 0, .int .i64 0]
  | .err p e => .tup [.nils, .int .i64 p, .int .i64 e]

/-- By threes. -/
theorem threes {P : List Tok → Prop} (h0 : P []) (h1 : ∀ x, P [x]) (h2 : ∀ x y, P [x, y]) (h3 : ∀ x y z r, P r → P (x :: y :: z :: r)) : ∀ l, P l
  | [] => h0
  | [x] => h1 x
  | [x, y] => h2 x y
  | x :: y :: z :: r => h3 x y z r (threes h0 h1 h2 h3 r)

theorem cG_len (N : Nat) : ∀ (ts : List Tok) (acc l : List Cn), cG N ts acc = .ok l → acc.length ≤ 256 → l.length ≤ 256 ∧ ts.length + 3 * acc.length = 3 * l.length := by
  refine threes ?_ ?_ ?_ ?_
  · intro acc l h ha; simp only [cG, CR.ok.injEq] at h; subst h; exact ⟨ha, by simp⟩
  · intro x acc l h; simp only [cG] at h; split at h <;> cases h
  · intro x y acc l h; simp only [cG] at h; repeat' split at h
    all_goals cases h
  · intro x y z r ih acc l h ha
    simp only [cG] at h
    split at h
    · cases h
    split at h
    · cases h
    split at h
    · cases h
    rename_i hn _ _
    have hlt : acc.length ≠ 256 := by
      intro e
      apply hn
      intro h0
      unfold nameE at h0
      rw [if_pos e] at h0
      repeat' split at h0
      all_goals cases h0
    obtain ⟨h1, h2⟩ := ih _ _ h (by simp; omega)
    refine ⟨h1, ?_⟩
    simp only [List.length_append, List.length_cons, List.length_nil] at h2 ⊢
    omega

theorem cG_app (N M : Nat) : ∀ (t1 : List Tok) (acc l : List Cn) (t2 : List Tok), cG N t1 acc = .ok l → cG M (t1 ++ t2) acc = cG M t2 l := by
  refine threes ?_ ?_ ?_ ?_
  · intro acc l t2 h; simp only [cG, CR.ok.injEq] at h; subst h; rfl
  · intro x acc l t2 h; simp only [cG] at h; split at h <;> cases h
  · intro x y acc l t2 h; simp only [cG] at h; repeat' split at h
    all_goals cases h
  · intro x y z r ih acc l t2 h
    simp only [cG] at h
    split at h
    · cases h
    split at h
    · cases h
    split at h
    · cases h
    rename_i h1 h2 h3
    simp only [List.cons_append, cG]
    rw [if_neg h1, if_neg h2, if_neg h3]
    exact ih _ _ t2 h

theorem known_app (l acc : List Cn) (t : ByteArray) : known (l ++ acc) t = (known l t || known acc t) := by simp [known]
theorem nameE_sh (d : Nat) (x : Tok) (acc : List Cn) : nameE (shT d x) acc = nameE x acc := rfl

/-- Behind other constants: the same, or a name stands in both. -/
theorem cG_behind (N M d : Nat) (l : List Cn) : ∀ (ts : List Tok) (acc m : List Cn), cG N ts acc = .ok m → l.length + m.length ≤ 256 → acc.length ≤ m.length → (∀ c, c ∈ acc → known l c.n = false) →
    ((∀ c, c ∈ m → known l c.n = false) → cG M (ts.map (shT d)) (l ++ acc) = .ok (l ++ m)) ∧ ((∃ c, c ∈ m ∧ known l c.n = true) → ∃ p, cG M (ts.map (shT d)) (l ++ acc) = .err p 170) := by
  refine threes ?_ ?_ ?_ ?_
  · intro acc m h hl ha hk
    simp only [cG, CR.ok.injEq] at h
    subst h
    refine ⟨fun _ => rfl, fun ⟨c, hc, hk2⟩ => ?_⟩
    rw [hk c hc] at hk2; cases hk2
  · intro x acc l h; simp only [cG] at h; split at h <;> cases h
  · intro x y acc l h; simp only [cG] at h; repeat' split at h
    all_goals cases h
  · intro x y z r ih acc m h hl ha hk
    simp only [cG] at h
    split at h
    · cases h
    split at h
    · cases h
    split at h
    · cases h
    rename_i h1 h2 h3
    obtain ⟨hlen, hlen2⟩ := cG_len N _ _ _ h (by
      have hlt : acc.length ≠ 256 := by
        intro e
        apply h1
        intro h0
        unfold nameE at h0
        rw [if_pos e] at h0
        repeat' split at h0
        all_goals cases h0
      simp; omega)
    simp only [List.length_append, List.length_cons, List.length_nil] at hlen2
    have h0 : nameE x acc = 0 := Classical.byContradiction h1
    have hin : ∃ c, c ∈ m ∧ c.n = x.t := by
      have : ∀ (ts : List Tok) (acc m : List Cn), cG N ts acc = .ok m → ∀ c, c ∈ acc → c ∈ m := by
        refine threes ?_ ?_ ?_ ?_
        · intro acc m h c hc; simp only [cG, CR.ok.injEq] at h; subst h; exact hc
        · intro x acc m h; simp only [cG] at h; split at h <;> cases h
        · intro x y acc m h; simp only [cG] at h; repeat' split at h
          all_goals cases h
        · intro x y z r ih acc m h c hc
          simp only [cG] at h
          split at h
          · cases h
          split at h
          · cases h
          split at h
          · cases h
          exact ih _ _ h c (List.mem_append_left _ hc)
      exact ⟨⟨x.t, z.t⟩, this _ _ _ h _ (by simp), rfl⟩
    simp only [List.map_cons, cG]
    have hN : nameE x (l ++ acc) = if known l x.t = true then 170 else 0 := by
      unfold nameE at h0 ⊢
      split at h0
      · cases h0
      split at h0
      · cases h0
      split at h0
      · cases h0
      split at h0
      · cases h0
      rename_i k1 k2 k3 k4
      rw [if_neg k1, if_neg k2, known_app]
      cases hkk : known l x.t with
      | true => simp
      | false =>
        rw [Bool.false_or, if_neg k3, if_neg (by rw [List.length_append]; omega)]
        rfl
    cases hkk : known l x.t with
    | true =>
      refine ⟨fun hall => ?_, fun _ => ⟨x.a + d, ?_⟩⟩
      · obtain ⟨c, hc, he⟩ := hin
        have := hall c hc
        rw [he, hkk] at this; cases this
      · rw [nameE_sh, hN, hkk]; rfl
    | false =>
      rw [nameE_sh, hN, hkk, if_neg (by simp), if_neg (show ¬ ¬ isEq (shT d y) from h2), if_neg (show ¬ ¬ (shT d z).k = 4 from h3)]
      have := ih (acc ++ [⟨x.t, z.t⟩]) m h hl (by simp only [List.length_append, List.length_cons, List.length_nil]; omega) (fun c hc => by
        rcases List.mem_append.1 hc with hc | hc
        · exact hk c hc
        · rw [List.mem_singleton.1 hc]; exact hkk)
      rw [← List.append_assoc] at this
      exact this

end Go.Proofs.Ytnbkbmpjggemaaa.AD
