/- Chapter 17: constants written are read as the same, plainly. -/
import Derived.Test.YtnbkbmpjggemaaaP5
import Derived.Test.YtnbkbmpjggemaaaK18
namespace Go.Proofs.Ytnbkbmpjggemaaa.AD
open Go.Proofs
set_option linter.unusedVariables false
set_option linter.unusedSimpArgs false
set_option maxRecDepth 100000

def kt (x : Tok) : Int × ByteArray := (x.k, x.t)
def kt3 (c : Cn) : List (Int × ByteArray) := [(1, c.n), (6, ⟨#[61]⟩), (4, c.v)]
theorem nameE_kt {x y : Tok} (h : kt x = kt y) (acc : List Cn) : nameE x acc = nameE y acc := by
  simp only [kt, Prod.mk.injEq] at h
  unfold nameE
  rw [h.1, h.2]
theorem isEq_kt {x y : Tok} (h : kt x = kt y) : isEq x ↔ isEq y := by
  simp only [kt, Prod.mk.injEq] at h
  unfold isEq
  rw [h.1, h.2]
theorem cG_same (N M : Nat) : ∀ (ts ts' : List Tok) (acc l : List Cn), ts.map kt = ts'.map kt → cG N ts acc = .ok l → cG M ts' acc = .ok l := by
  refine threes ?_ ?_ ?_ ?_
  · intro ts' acc l hm h
    have : ts' = [] := by simpa using hm.symm
    subst this
    simp only [cG, CR.ok.injEq] at h ⊢
    exact h
  · intro x ts' acc l _ h; simp only [cG] at h; split at h <;> cases h
  · intro x y ts' acc l _ h; simp only [cG] at h; repeat' split at h
    all_goals cases h
  · intro x y z r ih ts' acc l hm h
    match ts', hm with
    | x' :: y' :: z' :: r', hm =>
      simp only [List.map_cons, List.cons.injEq] at hm
      obtain ⟨m1, m2, m3, m4⟩ := hm
      simp only [cG] at h ⊢
      rw [← nameE_kt m1]
      split at h
      · cases h
      split at h
      · cases h
      split at h
      · cases h
      rename_i h1 h2 h3
      have m1' := m1; have m3' := m3
      simp only [kt, Prod.mk.injEq] at m1' m3'
      rw [if_neg h1, if_neg (fun e => h2 (fun e2 => e ((isEq_kt m2).1 e2))), if_neg (by rw [← m3'.1]; exact h3), ← m1'.2, ← m3'.2]
      exact ih r' _ l m4 h
    | [], hm => simp at hm
    | [_], hm => simp at hm
    | [_, _], hm => simp at hm

theorem strP_size : ∀ (f : Nat) (l : List UInt8) (i : Nat) (b : List UInt8) (k : Int) (t : ByteArray) (len : Nat), strP f l i b = .tok k t len → t.size + i ≤ b.length + len
  | 0, l, i, b, k, t, len, h => by cases h
  | f + 1, [], i, b, k, t, len, h => by cases h
  | f + 1, c :: r, i, b, k, t, len, h => by
    have hp : ∀ (r : List UInt8) (bs : List UInt8) (n : Nat), pieceP r = .ok bs n → bs.length ≤ 1 := by
      intro r bs n h
      have dg : ∀ (m v : Nat) (l : List UInt8), digF m v l = .ok bs n → bs.length ≤ 1 := by
        intro m
        induction m with
        | zero => intro v l h; simp only [digF] at h; split at h; cases h; cases h; exact Nat.le_refl _
        | succ m ih =>
          intro v l h
          cases l with
          | nil => cases h
          | cons c r => simp only [digF] at h; split at h; cases h; exact ih _ _ h
      cases r with
      | nil => cases h
      | cons c r =>
        simp only [pieceP] at h
        split at h
        · cases h; exact Nat.le_refl _
        split at h
        · cases h; exact Nat.le_refl _
        split at h
        · cases h; exact Nat.le_refl _
        split at h
        · cases h; exact Nat.le_refl _
        split at h
        · cases h; exact Nat.zero_le _
        · exact dg _ _ _ h
    simp only [strP] at h
    split at h
    · cases h
    split at h
    · cases h; rw [ba_size, ofL_data]; omega
    split at h
    · split at h
      · rename_i bs n hpp
        have h1 := hp _ _ _ hpp
        have h2 := strP_size f _ _ _ k t len h
        rw [List.length_append] at h2
        omega
      · cases h
      · cases h
    · have h2 := strP_size f r _ _ k t len h
      rw [List.length_append] at h2
      simp only [List.length_cons, List.length_nil] at h2
      omega
theorem nextP_strSize {c : UInt8} {r : List UInt8} {t : ByteArray} {len : Nat} (h : nextP (c :: r) = .tok 4 t len) : t.size ≤ len := by
  simp only [nextP] at h
  split at h
  · cases h
  split at h
  · have := numL_kind (c :: r)
    simp only [NR.tok.injEq] at h
    rw [h.1] at this
    rcases this with e | e | e <;> cases e
  split at h
  · have := strP_size _ _ _ _ _ _ _ h
    simp only [List.length_nil] at this
    omega
  split at h <;> cases h

/-- Constants' names are names, and nothing is longer than the text. -/
def FitC (N : Nat) (c : Cn) : Prop := nameB c.n = true ∧ c.n.size ≤ N ∧ c.v.size ≤ N
theorem cG_kt (N : Nat) (L : List UInt8) : ∀ (ts : List Tok) (acc l : List Cn), cG N ts acc = .ok l → (∀ x, x ∈ ts → NameOk x ∧ Alone L x) → ∃ m, l = acc ++ m ∧ ts.map kt = m.flatMap kt3 ∧ ∀ c, c ∈ m → FitC L.length c := by
  refine threes ?_ ?_ ?_ ?_
  · intro acc l h _; simp only [cG, CR.ok.injEq] at h; subst h; exact ⟨[], by simp, rfl, fun c hc => by cases hc⟩
  · intro x acc l h; simp only [cG] at h; split at h <;> cases h
  · intro x y acc l h; simp only [cG] at h; repeat' split at h
    all_goals cases h
  · intro x y z r ih acc l h ha
    simp only [cG] at h
    split at h
    · cases h
    split at h
    · cases h
    split at h
    · cases h
    rename_i h1 h2 h3
    obtain ⟨k1, _, _⟩ := nameE_zero (Classical.byContradiction h1)
    have hz : z.k = 4 := Classical.byContradiction h3
    obtain ⟨hy1, hy2⟩ : isEq y := Classical.byContradiction h2
    obtain ⟨m, rfl, hm, hf⟩ := ih _ l h (fun u hu => ha u (by simp [hu]))
    refine ⟨⟨x.t, z.t⟩ :: m, by simp, ?_, ?_⟩
    · simp only [List.map_cons, hm, List.flatMap_cons, kt3, kt, k1, hy1, hy2, hz]
      rfl
    · intro c hc
      rcases List.mem_cons.1 hc with rfl | hc
      · obtain ⟨hn, c1, w1, a1, a2, a3, a4⟩ := ha x (by simp)
        obtain ⟨_, c2, w2, b1, b2, b3, b4⟩ := ha z (by simp)
        rw [k1] at a2
        rw [hz] at b2
        have s1 := nextP_nameLen a2
        have s2 := nextP_strSize b2
        exact ⟨hn k1, by show x.t.size ≤ L.length; omega, by show z.t.size ≤ L.length; omega⟩
      · exact hf c hc

/-- A constant, written. -/
def lineL (c : Cn) : List UInt8 := c.n.data.toList ++ (61 :: (quoteL c.v.data.toList ++ [10]))
theorem next_eq34 (r : List UInt8) : nextP (61 :: 34 :: r) = .tok 6 ⟨#[61]⟩ 1 := by kernel_rfl
theorem tokS_tok' {c : UInt8} {r r' : List UInt8} {k : Int} {t : ByteArray} {len q : Nat} {us : List Tok} (hN : nextP (c :: r) = .tok k t len) (hd : (c :: r).drop len = r') (h : TokS r' (q + len) us) : TokS (c :: r) q (⟨k, t, q, q + len⟩ :: us) := by
  unfold TokS
  rw [nextP_head hN r]
  exact .cons c r q k t len us hN (by rw [hd]; exact h)
theorem tokS_line (c : Cn) (hc : nameB c.n = true) {r : List UInt8} {q : Nat} {us : List Tok} (h : TokS r (q + (lineL c).length) us) : ∃ vs, TokS (lineL c ++ r) q (vs ++ us) ∧ vs.map kt = kt3 c := by
  have hx : ∀ h y, 61 :: (quoteL c.v.data.toList ++ (10 :: r)) = h :: y → nam h = false := fun h y e => by cases e; decide
  obtain ⟨d, w, hl, hN⟩ := nextP_nameB hc hx
  have e : lineL c ++ r = d :: (w ++ 61 :: (quoteL c.v.data.toList ++ (10 :: r))) := by simp [lineL, hl]
  have eq : quoteL c.v.data.toList ++ (10 :: r) = 34 :: (c.v.data.toList.flatMap quoteB ++ (34 :: 10 :: r)) := by simp [quoteL]
  have hlen : (lineL c).length = (d :: w).length + 1 + (quoteL c.v.data.toList).length + 1 := by
    simp only [lineL, hl, List.length_append, List.length_cons, List.length_nil]; omega
  have hQ := nextP_quote c.v.data.toList (10 :: r)
  rw [eq] at hQ
  have hQd : (34 :: (c.v.data.toList.flatMap quoteB ++ (34 :: 10 :: r))).drop (quoteL c.v.data.toList).length = 10 :: r := by rw [← eq, List.drop_left]
  have hE := next_eq34 (c.v.data.toList.flatMap quoteB ++ (34 :: 10 :: r))
  have hNd : (d :: (w ++ 61 :: (quoteL c.v.data.toList ++ (10 :: r)))).drop (d :: w).length = 61 :: 34 :: (c.v.data.toList.flatMap quoteB ++ (34 :: 10 :: r)) := by
    rw [← List.cons_append, List.drop_left, eq]
  refine ⟨[⟨1, c.n, q, q + (d :: w).length⟩, ⟨6, ⟨#[61]⟩, q + (d :: w).length, q + (d :: w).length + 1⟩, ⟨4, ofL c.v.data.toList, q + (d :: w).length + 1, q + (d :: w).length + 1 + (quoteL c.v.data.toList).length⟩], ?_, ?_⟩
  · rw [e]
    refine tokS_tok' hN hNd ?_
    refine tokS_tok' hE (r' := 34 :: (c.v.data.toList.flatMap quoteB ++ (34 :: 10 :: r))) rfl ?_
    refine tokS_tok' hQ hQd ?_
    have : TokS (10 :: r) (q + (d :: w).length + 1 + (quoteL c.v.data.toList).length) us := by
      unfold TokS at h ⊢
      have hs : skipF false (10 :: r) = skipF false r + 1 := by
        show (if (10 : UInt8) = 35 then _ else if _ then skipF false r + 1 else 0) = _
        rw [if_neg (by decide), if_pos (.inr (.inr (.inr rfl)))]
      rw [hs, List.drop_succ_cons]
      rw [hlen] at h
      rw [show q + (d :: w).length + 1 + (quoteL c.v.data.toList).length + (skipF false r + 1) = q + ((d :: w).length + 1 + (quoteL c.v.data.toList).length + 1) + skipF false r by omega]
      exact h
    exact this
  · simp only [List.map_cons, List.map_nil, kt, kt3, ofL_of]
theorem tokS_lines : ∀ (l : List Cn) (q : Nat), (∀ c, c ∈ l → nameB c.n = true) → ∃ us, TokS (l.flatMap lineL) q us ∧ us.map kt = l.flatMap kt3
  | [], q, _ => ⟨[], .nil _, rfl⟩
  | c :: l, q, h => by
    obtain ⟨us, h1, h2⟩ := tokS_lines l (q + (lineL c).length) fun d hd => h d (List.mem_cons_of_mem _ hd)
    obtain ⟨vs, h3, h4⟩ := tokS_line c (h c (List.mem_cons_self ..)) h1
    exact ⟨vs ++ us, by rw [List.flatMap_cons]; exact h3, by rw [List.map_append, h2, h4, List.flatMap_cons]⟩

theorem const_back {s z : ByteArray} {l : List Cn} (h : constR s = .ok l) (hz : z.data.toList = l.flatMap lineL) (hzs : z.size ≤ 65536) : constR z = .ok l := by
  obtain ⟨hsz, hll, ts, h1, h2, h3⟩ := constR_ok h
  obtain ⟨m, hm, hkt, hfit⟩ := cG_kt _ s.data.toList _ _ _ h2 (fun x hx => ⟨toks_name (tokS_of h1) x hx, (toks_alone _ _ _ _ (tokS_of h1) (by rw [Nat.zero_add]) x hx).1⟩)
  rw [List.nil_append] at hm
  subst hm
  obtain ⟨us, hu, hk⟩ := tokS_lines l 0 fun c hc => (hfit c hc).1
  have hlen : us.length = ts.length := by
    have := congrArg List.length (hkt.trans hk.symm)
    simpa using this.symm
  have hT : tokensR z = .ok us := tokensR_of hzs (by omega) (by rw [hz]; exact hu)
  unfold constR
  rw [hT]
  exact cG_same _ _ ts us [] l (hkt.trans hk.symm) h2
theorem const_fit {s : ByteArray} {l : List Cn} (h : constR s = .ok l) : ∀ c, c ∈ l → c.n.size ≤ 65536 ∧ c.v.size ≤ 65536 := by
  obtain ⟨hsz, hll, ts, h1, h2, h3⟩ := constR_ok h
  obtain ⟨m, hm, hkt, hfit⟩ := cG_kt _ s.data.toList _ _ _ h2 (fun x hx => ⟨toks_name (tokS_of h1) x hx, (toks_alone _ _ _ _ (tokS_of h1) (by rw [Nat.zero_add]) x hx).1⟩)
  rw [List.nil_append] at hm
  subst hm
  intro c hc
  have := hfit c hc
  rw [← ba_size] at this
  exact ⟨by have := this.2.1; omega, by have := this.2.2; omega⟩

end Go.Proofs.Ytnbkbmpjggemaaa.AD
