/- Chapter 17: constants are found, compared; the law ConstsJoin of the code. -/
import Derived.Test.YtnbkbmpjggemaaaP2
namespace Go.Proofs.Ytnbkbmpjggemaaa.AD
open Go.Proofs
set_option linter.unusedVariables false
set_option linter.unusedSimpArgs false
set_option maxRecDepth 100000

def findV : List Cn → ByteArray → ByteArray × Bool
  | [], _ => (⟨#[]⟩, false)
  | c :: r, t => if c.n = t then (c.v, true) else findV r t
theorem findV_known (t : ByteArray) : ∀ l : List Cn, (findV l t).2 = known l t
  | [] => rfl
  | c :: r => by
    have := findV_known t r
    simp only [findV, known, List.any_cons] at this ⊢
    by_cases h : c.n = t
    · rw [if_pos h, decide_eq_true h]; rfl
    · rw [if_neg h, decide_eq_false h, Bool.false_or]; exact this

theorem Find_spec (l : List Cn) (t : ByteArray) (hl : l.length ≤ 65536) : pureF Try.prog 9 [.p (.list 2 (l.map cnP)), .p (.str t)] (.p (.tup [.str (findV l t).1, .bool (findV l t).2])) := by
  refine pureF_of f9_ok fun H => ?_
  have hm : (l.map cnP).length = l.length := by simp
  (conv => whnf)
  intro R hR
  have key : ∀ (rest : List Cn) (i : Nat), l.drop i = rest → findV rest t = findV l t → R [(1, .p (.str t)), (8, .p (.list 2 (l.map cnP))), (9, .p (.int .i64 (l.map cnP).length)), (10, .p (.int .i64 i))] H [] := by
    intro rest
    induction rest with
    | nil =>
      intro i hd hq
      have hi := drop_nil hd
      refine hR _ _ _ ?_
      (conv => whnf)
      refine splitB_f (decide_eq_false (by omega)) ?_
      (conv => whnf)
      rw [← hq]
      exact ⟨rfl, rfl⟩
    | cons x r ih =>
      intro i hd hq
      obtain ⟨hg, hd', hil⟩ := drop_cons hd
      simp only [findV] at hq
      refine hR _ _ _ ?_
      (conv => whnf)
      refine splitB_t (decide_eq_true (by omega)) ?_
      (conv => whnf)
      refine ⟨rfl, cnP x, ⟨by omega, by rw [Int.toNat_natCast, List.getElem?_map, hg]; rfl⟩, ?_⟩
      (conv => whnf)
      by_cases h : x.n = t
      · refine splitB_t (toList_beq.2 h) ?_
        (conv => whnf)
        rw [if_pos h] at hq
        rw [← hq]
        exact ⟨rfl, rfl⟩
      · refine splitB_f (toList_nbeq.2 h) ?_
        (conv => whnf)
        rw [if_neg h] at hq
        rw [IntWalk.i64_in _ (by omega)]
        exact ih (i + 1) hd' hq
  exact key l 0 rfl rfl

theorem eqCells_cn (a b : ByteArray) : eqCells [.str, .str] [.str a, .str b] [.str a, .str b] = some true := by
  simp [eqCells]

theorem SameC_spec (l : List Cn) (hl : l.length ≤ 65536) : pureF Try.prog 10 [.p (.list 2 (l.map cnP)), .p (.list 2 (l.map cnP))] (.p (.bool true)) := by
  refine pureF_of f10_ok fun H => ?_
  have hm : (l.map cnP).length = l.length := by simp
  (conv => whnf)
  refine splitB_f (bne_eq_false_iff_eq.2 rfl) ?_
  (conv => whnf)
  intro R hR
  have key : ∀ (rest : List Cn) (i : Nat), l.drop i = rest → R [(0, .p (.list 2 (l.map cnP))), (1, .p (.list 2 (l.map cnP))), (5, .p (.int .i64 i))] H [] := by
    intro rest
    induction rest with
    | nil =>
      intro i hd
      have hi := drop_nil hd
      refine hR _ _ _ ?_
      (conv => whnf)
      refine splitB_f (decide_eq_false (by omega)) ?_
      (conv => whnf)
      exact ⟨rfl, rfl⟩
    | cons x r ih =>
      intro i hd
      obtain ⟨hg, hd', hil⟩ := drop_cons hd
      refine hR _ _ _ ?_
      (conv => whnf)
      refine splitB_t (decide_eq_true (by omega)) ?_
      (conv => whnf)
      refine ⟨rfl, cnP x, ⟨by omega, by rw [Int.toNat_natCast, List.getElem?_map, hg]; rfl⟩, ?_⟩
      (conv => whnf)
      refine ⟨rfl, cnP x, ⟨by omega, by rw [Int.toNat_natCast, List.getElem?_map, hg]; rfl⟩, ?_⟩
      (conv => whnf)
      refine ⟨true, eqCells_cn _ _, ?_⟩
      (conv => whnf)
      refine splitB_f rfl ?_
      (conv => whnf)
      rw [IntWalk.i64_in _ (by omega)]
      exact ih (i + 1) hd'
  exact key l 0 rfl

def wSrc : ByteArray := ⟨#[97, 32, 61, 32, 34, 120, 34, 32, 98, 61, 34, 121, 34]⟩
theorem worksC_cs : constR wSrc = .ok [⟨⟨#[97]⟩, ⟨#[120]⟩⟩, ⟨⟨#[98]⟩, ⟨#[121]⟩⟩] := by kernel_rfl
theorem worksC_spec : pureF Try.prog 8 [] (.p (.bool true)) := by
  refine pureF_of f8_ok fun H => ?_
  have h := Parse_spec wSrc (by decide)
  rw [worksC_cs] at h
  (conv => whnf)
  refine CallVC.pureF h rfl ?_
  repeat' ((conv => whnf); first | refine splitB_t rfl ?_ | refine splitB_f rfl ?_ | done)
  (conv => whnf)
  refine CallVC.pureF (SameC_spec [⟨⟨#[97]⟩, ⟨#[120]⟩⟩, ⟨⟨#[98]⟩, ⟨#[121]⟩⟩] (by decide)) rfl ?_
  (conv => whnf)
  exact ⟨rfl, rfl⟩

theorem cG_err (N : Nat) : ∀ (ts : List Tok) (acc : List Cn) (p : Nat) (e : Int), cG N ts acc = .err p e → (e = 3 ∨ e = 150 ∨ e = 170 ∨ e = 171) ∧ (p = N ∨ ∃ x, x ∈ ts ∧ p = x.a) := by
  have hn : ∀ x acc, ¬ nameE x acc = 0 → (nameE x acc = 3 ∨ nameE x acc = 150 ∨ nameE x acc = 170 ∨ nameE x acc = 171) := by
    intro x acc h
    unfold nameE at h ⊢
    split
    · exact .inr (.inl rfl)
    split
    · exact .inr (.inr (.inr rfl))
    split
    · exact .inr (.inr (.inl rfl))
    split
    · exact .inl rfl
    · rename_i a b c d; rw [if_neg a, if_neg b, if_neg c, if_neg d] at h; exact absurd rfl h
  refine threes ?_ ?_ ?_ ?_
  · intro acc p e h; cases h
  · intro x acc p e h
    simp only [cG] at h
    split at h
    · rename_i hx; cases h; exact ⟨hn _ _ hx, .inr ⟨x, by simp, rfl⟩⟩
    · cases h; exact ⟨.inr (.inl rfl), .inl rfl⟩
  · intro x y acc p e h
    simp only [cG] at h
    split at h
    · rename_i hx; cases h; exact ⟨hn _ _ hx, .inr ⟨x, by simp, rfl⟩⟩
    split at h
    · cases h; exact ⟨.inr (.inl rfl), .inr ⟨y, by simp, rfl⟩⟩
    · cases h; exact ⟨.inr (.inl rfl), .inl rfl⟩
  · intro x y z r ih acc p e h
    simp only [cG] at h
    split at h
    · rename_i hx; cases h; exact ⟨hn _ _ hx, .inr ⟨x, by simp, rfl⟩⟩
    split at h
    · cases h; exact ⟨.inr (.inl rfl), .inr ⟨y, by simp, rfl⟩⟩
    split at h
    · cases h; exact ⟨.inr (.inl rfl), .inr ⟨z, by simp, rfl⟩⟩
    · obtain ⟨h1, h2⟩ := ih _ p e h
      refine ⟨h1, h2.elim .inl fun ⟨u, hu, he⟩ => .inr ⟨u, by simp [hu], he⟩⟩
theorem constR_err {s : ByteArray} {p : Nat} {e : Int} (h : constR s = .err p e) : (e = 3 ∨ e = 140 ∨ e = 141 ∨ e = 142 ∨ e = 150 ∨ e = 170 ∨ e = 171) ∧ p ≤ s.size := by
  unfold constR at h
  cases hR : tokensR s with
  | err q f =>
    rw [hR] at h
    cases h
    obtain ⟨h1, h2⟩ := tokensR_err hR
    exact ⟨by rcases h1 with rfl | rfl | rfl | rfl <;> simp, h2⟩
  | ok ts =>
    rw [hR] at h
    obtain ⟨h1, h2⟩ := cG_err _ _ _ _ _ h
    refine ⟨by rcases h1 with rfl | rfl | rfl | rfl <;> simp, ?_⟩
    rcases h2 with h5 | ⟨x, hx, h5⟩
    · omega
    obtain ⟨⟨_, _, _, _, h3, h4⟩, _⟩ := toks_alone _ _ _ _ (tokS_of hR) (by rw [Nat.zero_add]) x hx
    rw [← ba_size] at h4
    omega
theorem constR_ok {s : ByteArray} {l : List Cn} (h : constR s = .ok l) : s.size ≤ 65536 ∧ l.length ≤ 256 ∧ ∃ ts, tokensR s = .ok ts ∧ cG s.size ts [] = .ok l ∧ ts.length = 3 * l.length := by
  unfold constR at h
  cases hR : tokensR s with
  | err q f => rw [hR] at h; cases h
  | ok ts =>
    rw [hR] at h
    obtain ⟨h1, h2⟩ := cG_len _ _ _ _ h (by simp)
    exact ⟨(tokensR_tile hR).1, h1, ts, rfl, h, by simpa using h2⟩

/-- Two texts, one behind the other. -/
theorem const_join {a b s : ByteArray} {l m : List Cn} (ha : constR a = .ok l) (hb : constR b = .ok m) (sa : a.size ≤ 32767) (sb : b.size ≤ 32767) (hlm : l.length + m.length ≤ 256) (hs : s.data.toList = a.data.toList ++ 10 :: b.data.toList) :
    ((∀ c, c ∈ m → known l c.n = false) → constR s = .ok (l ++ m)) ∧ ((∃ c, c ∈ m ∧ known l c.n = true) → ∃ p, constR s = .err p 170) := by
  obtain ⟨_, _, t1, hA, hA2, hA3⟩ := constR_ok ha
  obtain ⟨_, _, t2, hB, hB2, hB3⟩ := constR_ok hb
  have hj := tokens_join hA hB sa sb (by omega) (by omega) s hs
  have h1 := cG_app a.size s.size t1 [] l (t2.map (shT (a.size + 1))) hA2
  have h2 := cG_behind b.size s.size (a.size + 1) l t2 [] m hB2 hlm (by simp) (fun c hc => by cases hc)
  rw [List.append_nil] at h2
  unfold constR
  rw [hj]
  simp only
  rw [h1]
  exact h2

end Go.Proofs.Ytnbkbmpjggemaaa.AD
