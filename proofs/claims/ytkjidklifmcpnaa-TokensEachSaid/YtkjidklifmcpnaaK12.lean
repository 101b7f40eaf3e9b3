/- Chapter 14: the law TokensTile of the code. -/
import Derived.Test.YtkjidklifmcpnaaK11
namespace Go.Proofs.Ytkjidklifmcpnaa.AD
open Go.Proofs
set_option linter.unusedVariables false
set_option linter.unusedSimpArgs false
set_option maxRecDepth 100000

theorem tokG_err : ∀ (f : Nat) (l : List UInt8) (q : Nat) (acc : List Tok) (p : Nat) (e : Int), l.length < f → tokG f l q acc = .err p e → (e = 3 ∨ e = 140 ∨ e = 141 ∨ e = 142) ∧ p ≤ q + l.length
  | 0, l, q, acc, p, e, h, _ => by omega
  | f + 1, [], q, acc, p, e, _, h => by cases h
  | f + 1, c :: r, q, acc, p, e, hf, h => by
    simp only [tokG] at h
    split at h
    · cases h; exact ⟨.inl rfl, by omega⟩
    split at h
    · rename_i o e' hN
      obtain ⟨h1, h2⟩ := nextP_err c r hN
      cases h
      simp only [List.length_cons]
      exact ⟨.inr h1, by omega⟩
    · rename_i k t len hN
      obtain ⟨h1, h2⟩ := nextP_len c r hN
      have hs := skipF_le ((c :: r).drop len) false
      have hl : (((c :: r).drop len).drop (skipF false ((c :: r).drop len))).length = (c :: r).length - len - skipF false ((c :: r).drop len) := by rw [List.length_drop, List.length_drop]
      rw [List.length_drop] at hs
      simp only [List.length_cons] at hf h2 hs hl ⊢
      obtain ⟨h3, h4⟩ := tokG_err f _ _ _ p e (by omega) h
      exact ⟨h3, by omega⟩

theorem tokensR_err {s : ByteArray} {p : Nat} {e : Int} (h : tokensR s = .err p e) : (e = 3 ∨ e = 140 ∨ e = 141 ∨ e = 142) ∧ p ≤ s.size := by
  unfold tokensR at h
  split at h
  · cases h; exact ⟨.inl rfl, by omega⟩
  · have hs := skipF_le s.data.toList false
    have := tokG_err _ _ _ _ p e (by rw [List.length_drop, ← ba_size]; omega) h
    rw [List.length_drop, ← ba_size] at this
    rw [← ba_size] at hs
    exact ⟨this.1, by omega⟩

/-- A token alone. -/
theorem tok_alone {c : UInt8} {r : List UInt8} {k : Int} {t : ByteArray} {len : Nat} (h : nextP (c :: r) = .tok k t len) (hb : len ≤ 65536) : tokensR (ofL ((c :: r).take len)) = .ok [⟨k, t, 0, len⟩] := by
  obtain ⟨h1, h2⟩ := nextP_len c r h
  have hsz : (ofL ((c :: r).take len)).size = len := by rw [ba_size, ofL_data, List.length_take]; omega
  unfold tokensR
  rw [hsz, if_neg (by omega), ofL_data]
  have ht := nextP_take h
  obtain ⟨M, rfl⟩ : ∃ m, len = m + 1 := ⟨len - 1, by omega⟩
  rw [List.take_succ_cons] at ht ⊢
  rw [nextP_head h, List.drop_zero]
  simp only [tokG, List.length_nil]
  rw [if_neg (by omega), ht]
  simp only
  have hd : (c :: r.take M).drop (M + 1) = [] := List.drop_eq_nil_iff.2 (by simp only [List.length_cons, List.length_take]; omega)
  rw [hd, List.drop_nil]
  simp [tokG]

/-- Tokens one behind the other, from a place on. -/
def Tile (L : List UInt8) : Nat → List Tok → Prop
  | e, [] => blkP false (L.drop e) = true
  | e, x :: r => (e ≤ x.a ∧ x.a < x.e ∧ x.e ≤ L.length) ∧ blkP false ((L.take x.a).drop e) = true ∧ tokensR (ofL ((L.take x.e).drop x.a)) = .ok [⟨x.k, x.t, 0, x.e - x.a⟩] ∧ Tile L x.e r

theorem blk_to (L : List UInt8) (e : Nat) : blkP false ((L.take (e + skipF false (L.drop e))).drop e) = true := by
  rw [List.drop_take, Nat.add_sub_cancel_left]
  exact blk_skip _ _

theorem tile_of (L : List UInt8) (hL : L.length ≤ 65536) : ∀ (f : Nat) (l : List UInt8) (q : Nat) (acc : List Tok) (e : Nat) (ts : List Tok), tokG f l q acc = .ok ts → L.drop q = l → q = e + skipF false (L.drop e) → e ≤ L.length → ∃ us, ts = acc ++ us ∧ Tile L e us
  | 0, l, q, acc, e, ts, h, _, _, _ => by cases h
  | f + 1, [], q, acc, e, ts, h, hd, hq, he => by
    cases h
    refine ⟨[], by simp, ?_⟩
    show blkP false (L.drop e) = true
    have h1 := blk_to L e
    rw [← hq] at h1
    have := List.drop_eq_nil_iff.1 hd
    rwa [List.take_of_length_le this] at h1
  | f + 1, c :: r, q, acc, e, ts, h, hd, hq, he => by
    simp only [tokG] at h
    split at h
    · cases h
    split at h
    · cases h
    · rename_i k t len hN
      obtain ⟨h1, h2⟩ := nextP_len c r hN
      have hlen : q + (c :: r).length = L.length := by
        have := congrArg List.length hd
        rw [List.length_drop] at this
        have h3 : 0 < (c :: r).length := by simp
        omega
      have hd2 : L.drop (q + len) = (c :: r).drop len := by rw [← List.drop_drop, hd]
      obtain ⟨us, rfl, hus⟩ := tile_of L hL f _ _ _ (q + len) ts h (by rw [← List.drop_drop, hd2]) (by rw [hd2]) (by omega)
      refine ⟨⟨k, t, q, q + len⟩ :: us, by simp, ⟨by show e ≤ q; omega, by show q < q + len; omega, by show q + len ≤ L.length; omega⟩, ?_, ?_, hus⟩
      · show blkP false ((L.take q).drop e) = true
        have h3 := blk_to L e
        rwa [← hq] at h3
      · show tokensR (ofL ((L.take (q + len)).drop q)) = .ok [⟨k, t, 0, q + len - q⟩]
        rw [List.drop_take, hd, Nat.add_sub_cancel_left]
        exact tok_alone hN (by omega)

theorem tokG_len : ∀ (f : Nat) (l : List UInt8) (q : Nat) (acc ts : List Tok), acc.length ≤ 8192 → tokG f l q acc = .ok ts → ts.length ≤ 8192
  | 0, l, q, acc, ts, _, h => by cases h
  | f + 1, [], q, acc, ts, ha, h => by cases h; exact ha
  | f + 1, c :: r, q, acc, ts, ha, h => by
    simp only [tokG] at h
    split at h
    · cases h
    split at h
    · cases h
    · exact tokG_len f _ _ _ ts (by simp; omega) h
theorem tokensR_len {s : ByteArray} {ts : List Tok} (h : tokensR s = .ok ts) : ts.length ≤ 8192 := by
  unfold tokensR at h
  split at h
  · cases h
  · exact tokG_len _ _ _ [] ts (by simp) h

theorem tokensR_tile {s : ByteArray} {ts : List Tok} (h : tokensR s = .ok ts) : s.size ≤ 65536 ∧ Tile s.data.toList 0 ts := by
  unfold tokensR at h
  split at h
  · cases h
  · obtain ⟨us, e, hus⟩ := tile_of s.data.toList (by rw [← ba_size]; omega) _ _ _ _ 0 ts h rfl (by simp) (Nat.zero_le _)
    rw [List.nil_append] at e
    subst e
    exact ⟨by omega, hus⟩

theorem TokensTile_spec (s : ByteArray) (hs : (s.size : Int) ≤ 9223372036854775807) : pureF Try.prog 3 [.p (.str s)] (.p (.bool true)) := by
  refine pureF_of f3_ok fun H => ?_
  have hT := Tokens_spec s hs
  have hw := works_spec
  cases hR : tokensR s with
  | err p e =>
    rw [hR] at hT
    obtain ⟨he, hp⟩ := tokensR_err hR
    (conv => whnf)
    refine CallVC.pureF hT rfl ?_
    (conv => whnf)
    refine splitB_t (by rcases he with rfl | rfl | rfl | rfl <;> rfl) ?_
    (conv => whnf)
    refine splitB_t rfl ?_
    (conv => whnf)
    refine splitB_t (decide_eq_true (by omega)) ?_
    (conv => whnf)
    refine splitB_t (decide_eq_true (by omega)) ?_
    (conv => whnf)
    refine CallVC.pureF hw rfl ?_
    (conv => whnf)
    exact ⟨rfl, rfl⟩
  | ok ts =>
    rw [hR] at hT
    obtain ⟨hsz, htile⟩ := tokensR_tile hR
    have hlen := ba_size s
    (conv => whnf)
    refine CallVC.pureF hT rfl ?_
    (conv => whnf)
    refine splitB_f rfl ?_
    (conv => whnf)
    intro R hR2
    have key : ∀ (us : List Tok) (i e : Nat), ts.drop i = us → Tile s.data.toList e us → e ≤ s.size → ts.length ≤ 65536 + 65536 → R [(0, .p (.str s)), (3, .p (.list 4 (ts.map tkP))), (4, .p (.int .i64 0)), (6, .p (.int .i64 e)), (7, .p (.int .i64 i))] H [] := by
      intro us
      induction us with
      | nil =>
        intro i e hd ht he htl
        have hl := drop_nil hd
        have hm : (ts.map tkP).length = ts.length := by simp
        refine hR2 _ _ _ ?_
        (conv => whnf)
        refine splitB_f (decide_eq_false (by omega)) ?_
        (conv => whnf)
        refine splitB_t rfl ?_
        (conv => whnf)
        refine ⟨⟨by omega, by omega⟩, ?_⟩
        (conv => whnf)
        have hb := blank_spec (s.extract (Int.toNat (e : Int)) s.size) (by rw [ba_size, ext_tail, List.length_drop, ← ba_size]; omega)
        rw [ext_tail, Int.toNat_natCast, show blkP false (s.data.toList.drop e) = true from ht] at hb
        refine CallVC.pureF hb rfl ?_
        (conv => whnf)
        refine splitB_t rfl ?_
        (conv => whnf)
        refine CallVC.pureF hw rfl ?_
        (conv => whnf)
        exact ⟨rfl, rfl⟩
      | cons x r ih =>
        intro i e hd ht he htl
        obtain ⟨hg, hd', hil⟩ := drop_cons hd
        obtain ⟨⟨t1, t2, t3⟩, t4, t5, t6⟩ := ht
        have hm : (ts.map tkP).length = ts.length := by simp
        refine hR2 _ _ _ ?_
        (conv => whnf)
        refine splitB_t (decide_eq_true (by omega)) ?_
        (conv => whnf)
        refine ⟨rfl, tkP x, ⟨by omega, by rw [Int.toNat_natCast, List.getElem?_map, hg]; rfl⟩, ?_⟩
        (conv => whnf)
        refine splitB_f (decide_eq_false (by omega)) ?_
        (conv => whnf)
        refine splitB_f (decide_eq_false (by omega)) ?_
        (conv => whnf)
        refine splitB_f (decide_eq_false (by omega)) ?_
        (conv => whnf)
        refine ⟨⟨by omega, by omega, by omega⟩, ?_⟩
        (conv => whnf)
        have hb := blank_spec (s.extract (Int.toNat (e : Int)) (Int.toNat (x.a : Int))) (by rw [ba_size, ext_data, List.length_drop, List.length_take, ← ba_size]; omega)
        rw [ext_data, Int.toNat_natCast, Int.toNat_natCast, t4] at hb
        refine CallVC.pureF hb rfl ?_
        (conv => whnf)
        refine splitB_f rfl ?_
        (conv => whnf)
        refine ⟨⟨by omega, by omega, by omega⟩, ?_⟩
        (conv => whnf)
        have ht2 := Tokens_spec (s.extract (Int.toNat (x.a : Int)) (Int.toNat (x.e : Int))) (by rw [ba_size, ext_data, List.length_drop, List.length_take, ← ba_size]; omega)
        rw [show tokensR (s.extract (Int.toNat (x.a : Int)) (Int.toNat (x.e : Int))) = .ok [⟨x.k, x.t, 0, x.e - x.a⟩] by rw [ext_ofL, Int.toNat_natCast, Int.toNat_natCast, t5]] at ht2
        refine CallVC.pureF ht2 rfl ?_
        repeat' ((conv => whnf); first | refine splitB_t rfl ?_ | refine splitB_f rfl ?_ | done)
        (conv => whnf)
        refine ⟨rfl, tkP ⟨x.k, x.t, 0, x.e - x.a⟩, ⟨by omega, rfl⟩, ?_⟩
        (conv => whnf)
        refine ⟨true, ?_, ?_⟩
        · rw [IntWalk.i64_in ((x.e : Int) - x.a) (by omega), show (x.e : Int) - x.a = ((x.e - x.a : Nat) : Int) by omega]
          exact eqCells_tok _ _ _ _
        (conv => whnf)
        refine splitB_f rfl ?_
        (conv => whnf)
        rw [IntWalk.i64_in _ (by omega)]
        exact ih (i + 1) x.e hd' t6 (by omega) htl
    exact key ts 0 0 rfl htile (Nat.zero_le _) (by have := tokensR_len hR; omega)

end Go.Proofs.Ytkjidklifmcpnaa.AD
