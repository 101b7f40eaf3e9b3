/- Chapter 14: tokens of two texts, and of a text spread. -/
import Derived.Test.YtkjidklifmcpnaaK12
namespace Go.Proofs.Ytkjidklifmcpnaa.AD
open Go.Proofs
set_option linter.unusedVariables false
set_option linter.unusedSimpArgs false
set_option maxRecDepth 100000

/-- The tokens of a text that begins with one. -/
inductive Toks : List UInt8 → Nat → List Tok → Prop
  | nil (q : Nat) : Toks [] q []
  | cons (c : UInt8) (r : List UInt8) (q : Nat) (k : Int) (t : ByteArray) (len : Nat) (us : List Tok) : nextP (c :: r) = .tok k t len →
      Toks (((c :: r).drop len).drop (skipF false ((c :: r).drop len))) (q + len + skipF false ((c :: r).drop len)) us → Toks (c :: r) q (⟨k, t, q, q + len⟩ :: us)
def TokS (l : List UInt8) (q : Nat) (us : List Tok) : Prop := Toks (l.drop (skipF false l)) (q + skipF false l) us

theorem toks_of : ∀ (f : Nat) (l : List UInt8) (q : Nat) (acc ts : List Tok), tokG f l q acc = .ok ts → ∃ us, ts = acc ++ us ∧ Toks l q us
  | 0, l, q, acc, ts, h => by cases h
  | f + 1, [], q, acc, ts, h => by cases h; exact ⟨[], by simp, .nil q⟩
  | f + 1, c :: r, q, acc, ts, h => by
    simp only [tokG] at h
    split at h
    · cases h
    split at h
    · cases h
    · rename_i k t len hN
      obtain ⟨us, rfl, h2⟩ := toks_of f _ _ _ ts h
      exact ⟨⟨k, t, q, q + len⟩ :: us, by simp, .cons c r q k t len us hN h2⟩
theorem tokG_of {l : List UInt8} {q : Nat} {us : List Tok} (h : Toks l q us) : ∀ (f : Nat) (acc : List Tok), acc.length + us.length ≤ 8192 → l.length < f → tokG f l q acc = .ok (acc ++ us) := by
  induction h with
  | nil q =>
    intro f acc hl hf
    obtain ⟨f, rfl⟩ : ∃ g, f = g + 1 := ⟨f - 1, by omega⟩
    simp [tokG]
  | cons c r q k t len us hN h2 ih =>
    intro f acc hl hf
    obtain ⟨f, rfl⟩ : ∃ g, f = g + 1 := ⟨f - 1, by omega⟩
    simp only [List.length_cons] at hl
    obtain ⟨h1, h3⟩ := nextP_len c r hN
    simp only [tokG]
    rw [if_neg (by omega), hN]
    simp only
    rw [ih f (acc ++ [(⟨k, t, q, q + len⟩ : Tok)]) (by rw [List.length_append]; simp only [List.length_cons, List.length_nil]; omega) (by rw [List.length_drop, List.length_drop]; simp only [List.length_cons] at hf h3 ⊢; omega)]
    simp
theorem tokS_of {s : ByteArray} {ts : List Tok} (h : tokensR s = .ok ts) : TokS s.data.toList 0 ts := by
  unfold tokensR at h
  split at h
  · cases h
  · obtain ⟨us, e, h2⟩ := toks_of _ _ _ _ _ h
    rw [List.nil_append] at e
    subst e
    rw [TokS, Nat.zero_add]
    exact h2
theorem tokensR_of {s : ByteArray} {ts : List Tok} (hs : s.size ≤ 65536) (ht : ts.length ≤ 8192) (h : TokS s.data.toList 0 ts) : tokensR s = .ok ts := by
  unfold tokensR
  rw [if_neg (by omega)]
  rw [TokS, Nat.zero_add] at h
  rw [tokG_of h (s.size + 1) [] (by simpa using ht) (by rw [List.length_drop, ← ba_size]; omega)]
  rfl

def shT (d : Nat) (x : Tok) : Tok := ⟨x.k, x.t, x.a + d, x.e + d⟩
theorem toks_shift (d : Nat) {l : List UInt8} {q : Nat} {us : List Tok} (h : Toks l q us) : Toks l (q + d) (us.map (shT d)) := by
  induction h with
  | nil q => exact .nil _
  | cons c r q k t len us hN h2 ih =>
    have := Toks.cons c r (q + d) k t len (us.map (shT d)) hN (by rw [show q + d + len + skipF false ((c :: r).drop len) = q + len + skipF false ((c :: r).drop len) + d by omega]; exact ih)
    rw [List.map_cons, shT]
    simp only
    rw [show q + len + d = q + d + len by omega]
    exact this

theorem skip_app (y : List UInt8) : ∀ (l : List UInt8) (b : Bool), (skipF b l < l.length → skipF b (l ++ 10 :: y) = skipF b l) ∧ (skipF b l = l.length → skipF b (l ++ 10 :: y) = l.length + 1 + skipF false y)
  | [], b => by
    refine ⟨fun h => by simp at h, fun _ => ?_⟩
    cases b
    · simp [skipF]; omega
    · simp [skipF]; omega
  | c :: r, true => by
    obtain ⟨h1, h2⟩ := skip_app y r false
    obtain ⟨h3, h4⟩ := skip_app y r true
    simp only [List.cons_append, skipF, List.length_cons]
    split
    · exact ⟨fun h => by rw [h1 (by omega)], fun h => by rw [h2 (by omega)]; omega⟩
    · exact ⟨fun h => by rw [h3 (by omega)], fun h => by rw [h4 (by omega)]; omega⟩
  | c :: r, false => by
    obtain ⟨h1, h2⟩ := skip_app y r false
    obtain ⟨h3, h4⟩ := skip_app y r true
    simp only [List.cons_append, skipF, List.length_cons]
    split
    · exact ⟨fun h => by rw [h3 (by omega)], fun h => by rw [h4 (by omega)]; omega⟩
    split
    · exact ⟨fun h => by rw [h1 (by omega)], fun h => by rw [h2 (by omega)]; omega⟩
    · exact ⟨fun h => rfl, fun h => by omega⟩

theorem sep10 (y : List UInt8) : sepH (10 :: y) := fun h z e => by cases e; exact .inr (.inr (.inr rfl))

theorem tokS_join (y : List UInt8) (vs : List Tok) : ∀ (us : List Tok) (l : List UInt8) (q : Nat), TokS l q us → TokS y (q + l.length + 1) vs → TokS (l ++ 10 :: y) q (us ++ vs) := by
  intro us
  induction us with
  | nil =>
    intro l q h hy
    have hle := skipF_le l false
    have he : l.drop (skipF false l) = [] := by
      unfold TokS at h
      generalize hd : l.drop (skipF false l) = d at h
      cases h; rfl
    have hl := List.drop_eq_nil_iff.1 he
    have hs := (skip_app y l false).2 (by omega)
    unfold TokS at hy ⊢
    rw [hs, List.nil_append, show l.length + 1 + skipF false y = l.length + (1 + skipF false y) by omega, ← List.drop_drop, List.drop_left, ← List.drop_drop]
    rw [show q + (l.length + (1 + skipF false y)) = q + l.length + 1 + skipF false y by omega]
    exact hy
  | cons x us ih =>
    intro l q h hy
    have hle := skipF_le l false
    unfold TokS at h
    generalize hd : l.drop (skipF false l) = d at h
    cases h with
    | cons c r q' k t len _ hN h2 =>
      have hlen : skipF false l + (c :: r).length = l.length := by
        have := congrArg List.length hd
        rw [List.length_drop] at this
        omega
      have hs := (skip_app y l false).1 (by simp only [List.length_cons] at hlen; omega)
      have hN2 := nextP_app (sep10 y) hN
      obtain ⟨n1, n2⟩ := nextP_len c r hN
      have q2 := ih ((c :: r).drop len) (q + skipF false l + len) h2 (by rw [List.length_drop, show q + skipF false l + len + ((c :: r).length - len) + 1 = q + l.length + 1 by omega]; exact hy)
      unfold TokS at q2 ⊢
      rw [hs, List.drop_append_of_le_length hle, hd]
      refine .cons c (r ++ 10 :: y) (q + skipF false l) k t len (us ++ vs) hN2 ?_
      have he : (c :: (r ++ 10 :: y)).drop len = (c :: r).drop len ++ 10 :: y := by rw [← List.cons_append]; exact List.drop_append_of_le_length n2
      rw [he]
      exact q2

theorem tokens_join {a b : ByteArray} {l m : List Tok} (ha : tokensR a = .ok l) (hb : tokensR b = .ok m) (sa : a.size ≤ 32767) (sb : b.size ≤ 32767) (hl : l.length ≤ 4096) (hm : m.length ≤ 4096) (s : ByteArray)
    (hs : s.data.toList = a.data.toList ++ 10 :: b.data.toList) : tokensR s = .ok (l ++ m.map (shT (a.size + 1))) := by
  have h1 := tokS_of ha
  have h2 := toks_shift (a.size + 1) (tokS_of hb)
  refine tokensR_of (by rw [ba_size, hs, List.length_append, List.length_cons, ← ba_size, ← ba_size]; omega) (by rw [List.length_append, List.length_map]; omega) ?_
  rw [hs]
  refine tokS_join _ _ _ _ _ h1 ?_
  unfold TokS
  rw [← ba_size, show 0 + a.size + 1 + skipF false b.data.toList = 0 + skipF false b.data.toList + (a.size + 1) by omega]
  exact h2

/-- A token's bytes, alone. -/
def Alone (L : List UInt8) (x : Tok) : Prop := ∃ c w, (L.take x.e).drop x.a = c :: w ∧ nextP (c :: w) = .tok x.k x.t (x.e - x.a) ∧ x.e = x.a + (c :: w).length ∧ x.e ≤ L.length
theorem toks_alone (L : List UInt8) : ∀ (us : List Tok) (l : List UInt8) (q : Nat), Toks l q us → L.drop q = l → ∀ x, x ∈ us → Alone L x ∧ q ≤ x.a := by
  intro us
  induction us with
  | nil => intro l q h hd x hx; cases hx
  | cons u us ih =>
    intro l q h hd x hx
    cases h with
    | cons c r _ k t len _ hN h2 =>
      obtain ⟨n1, n2⟩ := nextP_len c r hN
      have hlen : q + (c :: r).length = L.length := by
        have := congrArg List.length hd
        rw [List.length_drop] at this
        have h3 : 0 < (c :: r).length := by simp
        omega
      rcases List.mem_cons.1 hx with rfl | hx
      · refine ⟨⟨c, r.take (len - 1), ?_, ?_, ?_, ?_⟩, Nat.le_refl _⟩
        · show (L.take (q + len)).drop q = _
          rw [List.drop_take, hd, Nat.add_sub_cancel_left]
          obtain ⟨M, rfl⟩ : ∃ m, len = m + 1 := ⟨len - 1, by omega⟩
          rfl
        · show nextP _ = .tok k t (q + len - q)
          rw [Nat.add_sub_cancel_left]
          have := nextP_take hN
          obtain ⟨M, rfl⟩ : ∃ m, len = m + 1 := ⟨len - 1, by omega⟩
          exact this
        · show q + len = q + _
          simp only [List.length_cons, List.length_take] at n2 ⊢
          omega
        · show q + len ≤ _
          omega
      · obtain ⟨a1, a2⟩ := ih _ _ h2 (by rw [show q + len + skipF false ((c :: r).drop len) = q + (len + skipF false ((c :: r).drop len)) by omega, ← List.drop_drop, hd, ← List.drop_drop]) x hx
        exact ⟨a1, by omega⟩

def bodyOf (L : List UInt8) (x : Tok) : List UInt8 := (L.take x.e).drop x.a
/-- A text spread. -/
def sprL (L more : List UInt8) : List Tok → List UInt8
  | [] => more
  | x :: us => more ++ (bodyOf L x ++ sprL L more us)
def reT (ml : Nat) : Nat → List Tok → List Tok
  | _, [] => []
  | p, x :: us => ⟨x.k, x.t, p + ml, p + ml + (x.e - x.a)⟩ :: reT ml (p + ml + (x.e - x.a)) us
theorem reT_len (ml : Nat) : ∀ (us : List Tok) (p : Nat), (reT ml p us).length = us.length
  | [], p => rfl
  | x :: us, p => by simp [reT, reT_len ml us]

theorem tokS_spread (L more : List UInt8) (hm : ∀ y, skipF false (more ++ y) = more.length + skipF false y) (hh : ∀ y, sepH (more ++ y)) : ∀ (us : List Tok) (q : Nat), (∀ x, x ∈ us → Alone L x) → TokS (sprL L more us) q (reT more.length q us)
  | [], q, _ => by
    have := hm []
    rw [List.append_nil] at this
    unfold TokS sprL reT
    rw [this]
    simp only [skipF, Nat.add_zero, List.drop_length]
    exact .nil _
  | x :: us, q, h => by
    obtain ⟨c, w, h1, h2, h3, h4⟩ := h x (List.mem_cons_self ..)
    have ih := tokS_spread L more hm hh us (q + more.length + (x.e - x.a)) fun z hz => h z (List.mem_cons_of_mem _ hz)
    have hN : nextP (c :: w ++ sprL L more us) = .tok x.k x.t (x.e - x.a) := nextP_app (by
      cases us with
      | nil => have := hh []; rwa [List.append_nil] at this
      | cons => exact hh _) h2
    unfold TokS at ih ⊢
    unfold sprL reT
    rw [hm, bodyOf, h1, List.cons_append, nextP_head hN, Nat.add_zero, List.drop_left]
    refine .cons c (w ++ sprL L more us) (q + more.length) x.k x.t (x.e - x.a) _ hN ?_
    have hd : (c :: (w ++ sprL L more us)).drop (x.e - x.a) = sprL L more us := by
      rw [← List.cons_append, show x.e - x.a = (c :: w).length by omega, List.drop_left]
    rw [hd]
    exact ih

/-- How long the tokens' bytes are together. -/
def sumT : List Tok → Nat
  | [] => 0
  | x :: us => (x.e - x.a) + sumT us
theorem sprL_len (L more : List UInt8) : ∀ us : List Tok, (∀ x, x ∈ us → Alone L x) → (sprL L more us).length = (us.length + 1) * more.length + sumT us
  | [], _ => by simp [sprL, sumT]
  | x :: us, h => by
    obtain ⟨c, w, h1, h2, h3, h4⟩ := h x (List.mem_cons_self ..)
    have := sprL_len L more us fun z hz => h z (List.mem_cons_of_mem _ hz)
    rw [sprL, List.length_append, List.length_append, this, bodyOf, h1, sumT, List.length_cons (a := x), Nat.succ_mul, Nat.succ_mul, Nat.succ_mul]
    omega
theorem sumT_le : ∀ (us : List Tok) (L : List UInt8) (e : Nat), Tile L e us → e ≤ L.length → e + sumT us ≤ L.length
  | [], L, e, _, h => h
  | x :: us, L, e, h, he => by
    obtain ⟨⟨h1, h2, h3⟩, _, _, h4⟩ := h
    have := sumT_le us L x.e h4 h3
    simp only [sumT]; omega

theorem tokens_spread {s : ByteArray} {l : List Tok} (h : tokensR s = .ok l) (hl : l.length ≤ 4000) (hs : s.size ≤ 30000) (more : List UInt8) (hml : more.length ≤ 5) (hm : ∀ y, skipF false (more ++ y) = more.length + skipF false y) (hh : ∀ y, sepH (more ++ y))
    (z : ByteArray) (hz : z.data.toList = sprL s.data.toList more l) : tokensR z = .ok (reT more.length 0 l) := by
  have hT := tokS_of h
  have hA : ∀ x, x ∈ l → Alone s.data.toList x := fun x hx => (toks_alone _ _ _ _ hT (by rw [Nat.zero_add]) x hx).1
  have hsum := sumT_le _ _ _ (tokensR_tile h).2 (Nat.zero_le _)
  rw [← ba_size] at hsum
  refine tokensR_of ?_ (by rw [reT_len]; omega) ?_
  · rw [ba_size, hz, sprL_len _ _ _ hA]
    have : (l.length + 1) * more.length ≤ 4001 * 5 := Nat.mul_le_mul (by omega) hml
    omega
  · rw [hz]
    exact tokS_spread _ _ hm hh _ _ hA

end Go.Proofs.Ytkjidklifmcpnaa.AD
