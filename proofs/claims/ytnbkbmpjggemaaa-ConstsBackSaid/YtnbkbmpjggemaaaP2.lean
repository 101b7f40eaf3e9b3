/- Chapter 17: constants are read as the plain reader reads them. -/
import Derived.Test.YtnbkbmpjggemaaaP1
namespace Go.Proofs.Ytnbkbmpjggemaaa.AD
open Go.Proofs
set_option linter.unusedVariables false
set_option linter.unusedSimpArgs false
set_option maxRecDepth 100000

/-! ### a name's token -/
def NameOk (x : Tok) : Prop := x.k = 1 → nameB x.t = true
theorem numL_kind (l : List UInt8) : (numL l).1 = 2 ∨ (numL l).1 = 3 ∨ (numL l).1 = 5 := by
  unfold numL
  split
  · split
    · exact .inr (.inl rfl)
    · split
      · exact .inr (.inr rfl)
      · exact .inl rfl
  · exact .inl rfl
theorem strP_kind : ∀ (f : Nat) (l : List UInt8) (i : Nat) (b : List UInt8) (k : Int) (t : ByteArray) (len : Nat), strP f l i b = .tok k t len → k = 4
  | 0, l, i, b, k, t, len, h => by cases h
  | f + 1, [], i, b, k, t, len, h => by cases h
  | f + 1, c :: r, i, b, k, t, len, h => by
    simp only [strP] at h
    split at h
    · cases h
    split at h
    · cases h; rfl
    split at h
    · split at h
      · exact strP_kind f _ _ _ _ _ _ h
      · cases h
      · cases h
    · exact strP_kind f _ _ _ _ _ _ h
theorem take_nam : ∀ (l : List UInt8), ((l.take (whileL nam l)).all fun c => letterB c.toNat || digitB c.toNat) = true
  | [] => rfl
  | c :: r => by
    simp only [whileL]
    split
    · rename_i h
      rw [List.take_succ_cons, List.all_cons, take_nam r, Bool.and_true]; exact h
    · rfl
theorem nextP_name {c : UInt8} {r : List UInt8} {t : ByteArray} {len : Nat} (h : nextP (c :: r) = .tok 1 t len) : nameB t = true := by
  simp only [nextP] at h
  split at h
  · rename_i hl
    cases h
    unfold nameB
    rw [ofL_data]
    have hn : nam c = true := by simp only [nam]; rw [show letterB c.toNat = lett c from rfl, hl]; rfl
    have ht := take_nam (c :: r)
    simp only [whileL, if_pos hn, List.take_succ_cons, List.all_cons, Bool.and_eq_true] at ht ⊢
    exact ⟨hl, ht.2⟩
  split at h
  · have := numL_kind (c :: r)
    simp only [NR.tok.injEq] at h
    rw [h.1] at this
    rcases this with e | e | e <;> cases e
  split at h
  · have := strP_kind _ _ _ _ _ _ _ h
    cases this
  split at h <;> cases h
theorem toks_name {l : List UInt8} {q : Nat} {us : List Tok} (h : Toks l q us) : ∀ x, x ∈ us → NameOk x := by
  induction h with
  | nil => intro x hx; cases hx
  | cons c r q k t len us hN h2 ih =>
    intro x hx
    rcases List.mem_cons.1 hx with rfl | hx
    · intro hk
      have hk : k = 1 := hk
      subst hk
      exact nextP_name hN
    · exact ih x hx

/-! ### what is told already -/
def mP (i : Nat) : List ByteArray → List (PV × PV)
  | [] => []
  | s :: r => (.str s, .int .i64 i) :: mP (i + 1) r
def tix (s : ByteArray) : List ByteArray → Option Nat
  | [] => none
  | t :: r => if s = t then some 0 else (tix s r).map (· + 1)
theorem tix_find (s : ByteArray) : ∀ (T : List ByteArray) (i : Nat), mfind none (.str s) (mP i T) = some ((tix s T).map fun k => .int .i64 (i + k : Nat)) := by
  intro T
  induction T with
  | nil => intro i; rfl
  | cons t r ih =>
    intro i
    simp only [mP, mfind, keyOk, sameKey, tix]
    by_cases h : s = t
    · subst h; simp
    · rw [decide_eq_false h, if_neg h]
      simp only [ih]
      cases tix s r with
      | none => rfl
      | some k => simp; omega
theorem tix_put (s : ByteArray) (v : PV) : ∀ (T : List ByteArray) (i : Nat), ∃ q, mput none (.str s) v (mP i T) = some q := by
  intro T
  induction T with
  | nil => intro i; exact ⟨_, rfl⟩
  | cons t r ih =>
    intro i
    obtain ⟨q, hq⟩ := ih (i + 1)
    simp only [mP, mput, keyOk, sameKey]
    cases decide (s = t) with
    | true => exact ⟨_, rfl⟩
    | false => rw [hq]; exact ⟨_, rfl⟩
theorem tix_new (s : ByteArray) : ∀ (T : List ByteArray) (i : Nat), tix s T = none → mput none (.str s) (.int .i64 (i + T.length : Nat)) (mP i T) = some (mP i (T ++ [s])) := by
  intro T
  induction T with
  | nil => intro i _; rfl
  | cons t r ih =>
    intro i h
    simp only [tix] at h
    by_cases h2 : s = t
    · rw [if_pos h2] at h; cases h
    · rw [if_neg h2] at h
      have h3 : tix s r = none := by cases h4 : tix s r with | none => rfl | some k => rw [h4] at h; cases h
      simp only [mP, mput, keyOk, sameKey, List.cons_append]
      rw [decide_eq_false h2]
      have := ih (i + 1) h3
      have e : i + 1 + r.length = i + (t :: r).length := by simp; omega
      rw [e] at this
      simp only [this]
      rfl
theorem known_tix (t : ByteArray) : ∀ acc : List Cn, known acc t = (tix t (acc.map (·.n))).isSome
  | [] => rfl
  | c :: r => by
    have := known_tix t r
    simp only [known, List.any_cons, List.map_cons, tix] at this ⊢
    by_cases h : c.n = t
    · rw [if_pos h.symm]; simp [h]
    · rw [if_neg (fun e => h e.symm), decide_eq_false h, Bool.false_or, this]
      cases tix t (r.map (·.n)) <;> rfl

theorem toList_eq {a b : ByteArray} : a.toList = b.toList ↔ a = b := ⟨fun h => ba_eq (by rwa [ba_toList, ba_toList] at h), fun h => by rw [h]⟩
theorem toList_beq {a b : ByteArray} : (a.toList == b.toList) = true ↔ a = b := by rw [beq_iff_eq, toList_eq]
theorem toList_nbeq {a b : ByteArray} : (a.toList == b.toList) = false ↔ ¬ a = b := by rw [beq_eq_false_iff_ne, Ne, toList_eq]
theorem tmod3 (n : Nat) : (n : Int).tmod 3 = ((n % 3 : Nat) : Int) := by rw [Int.tmod_eq_emod_of_nonneg (by omega)]; omega
theorem tmod3_0 (j : Nat) : ((3 * j : Nat) : Int).tmod 3 = 0 := by rw [tmod3]; omega
theorem tmod3_1 (j : Nat) : ((3 * j + 1 : Nat) : Int).tmod 3 = 1 := by rw [tmod3]; omega
theorem tmod3_2 (j : Nat) : ((3 * j + 2 : Nat) : Int).tmod 3 = 2 := by rw [tmod3]; omega

theorem Parse_spec (s : ByteArray) (hsz : (s.size : Int) ≤ 9223372036854775807) : pureF Try.prog 7 [.p (.str s)] (.p (resC (constR s))) := by
  refine pureF_of f7_ok fun H => ?_
  have hT := Tokens_spec s hsz
  unfold constR
  cases hR : tokensR s with
  | err p e =>
    rw [hR] at hT
    obtain ⟨he, hp⟩ := tokensR_err hR
    (conv => whnf)
    refine CallVC.pureF hT rfl ?_
    (conv => whnf)
    refine splitB_t (by rcases he with rfl | rfl | rfl | rfl <;> rfl) ?_
    (conv => whnf)
    exact ⟨rfl, rfl⟩
  | ok ts =>
    rw [hR] at hT
    have hlen := tokensR_len hR
    have hml : (ts.map tkP).length = ts.length := by simp
    have hsz2 := (tokensR_tile hR).1
    have hnam : ∀ x, x ∈ ts → NameOk x := toks_name (tokS_of hR)
    simp only
    (conv => whnf)
    refine CallVC.pureF hT rfl ?_
    (conv => whnf)
    refine splitB_f rfl ?_
    (conv => whnf)
    intro R hR2
    have one : ∀ (acc : List Cn) (j g : Nat) (x : Tok), ts[3 * j]? = some x → acc.length = j →
        (¬ (nameE x acc = 0) → cG s.size ts [] = .err x.a (nameE x acc) → R [(0, .p (.str s)), (5, .p (.list 4 (ts.map tkP))), (7, .p (.int .i64 0)), (8, .mapr (.l 0)), (9, .view (.l 1) g 2 acc.length), (25, .p (.list 4 (ts.map tkP))), (26, .p (.int .i64 (ts.map tkP).length)), (27, .p (.int .i64 (3 * j : Nat)))] H
          [.map (mP 0 (acc.map (·.n))), .buf g 2 (acc.map cnP)]) ∧
        (nameE x acc = 0 → R [(0, .p (.str s)), (5, .p (.list 4 (ts.map tkP))), (7, .p (.int .i64 0)), (8, .mapr (.l 0)), (9, .view (.l 1) (g + 1) 2 (acc.length + 1)), (25, .p (.list 4 (ts.map tkP))), (26, .p (.int .i64 (ts.map tkP).length)), (27, .p (.int .i64 (3 * j + 1 : Nat)))] H
          [.map (mP 0 ((acc ++ [(⟨x.t, ⟨#[]⟩⟩ : Cn)]).map (·.n))), .buf (g + 1) 2 ((acc ++ [(⟨x.t, ⟨#[]⟩⟩ : Cn)]).map cnP)] →
         R [(0, .p (.str s)), (5, .p (.list 4 (ts.map tkP))), (7, .p (.int .i64 0)), (8, .mapr (.l 0)), (9, .view (.l 1) g 2 acc.length), (25, .p (.list 4 (ts.map tkP))), (26, .p (.int .i64 (ts.map tkP).length)), (27, .p (.int .i64 (3 * j : Nat)))] H
          [.map (mP 0 (acc.map (·.n))), .buf g 2 (acc.map cnP)]) := by
      intro acc j g x hx hj
      have hil := (List.getElem?_eq_some_iff.1 hx).1
      have hnx := hnam x (List.mem_of_getElem? hx)
      have hfind := tix_find x.t (acc.map (·.n)) 0
      have hkn := known_tix x.t acc
      obtain ⟨put, hput⟩ := tix_put x.t (.int .i64 (acc.length : Nat)) (acc.map (·.n)) 0
      obtain ⟨v, hv⟩ : ∃ v, lookV (PV.int IntKind.i64 0) true (Option.map (fun k => PV.int IntKind.i64 ((0 + k : Nat) : Int)) (tix x.t (List.map (fun x => x.n) acc))) = .tup [v, .bool (known acc x.t)] := by
        rw [hkn]; cases tix x.t (List.map (fun x => x.n) acc) <;> exact ⟨_, rfl⟩
      have hal : (acc.map cnP).length = acc.length := by simp
      refine ⟨fun hne hres => ?_, fun h0 hgo => ?_⟩
      · refine hR2 _ _ _ ?_
        (conv => whnf)
        refine splitB_t (decide_eq_true (by omega)) ?_
        (conv => whnf)
        refine ⟨rfl, tkP x, ⟨by omega, by rw [Int.toNat_natCast, List.getElem?_map, hx]; rfl⟩, ?_⟩
        (conv => whnf)
        refine ⟨by decide, ?_⟩
        (conv => whnf)
        refine splitB_t (by rw [tmod3_0]; rfl) ?_
        (conv => whnf)
        refine ⟨rfl, _, hfind, ?_⟩
        (conv => whnf)
        rw [hv]
        (conv => whnf)
        by_cases hk1 : x.k = 1
        · have hne1 := hne
          have hname := hnx hk1
          unfold nameE at hne1 hres
          refine splitB_f (by rw [hk1]; rfl) ?_
          (conv => whnf)
          by_cases h2 : x.t = trueS
          · refine splitB_t (toList_beq.2 h2) ?_
            (conv => whnf)
            refine splitB_t (toList_beq.2 h2) ?_
            (conv => whnf)
            rw [if_pos (.inr (.inl h2))] at hres
            refine ⟨rfl, ?_⟩
            (conv => whnf)
            refine ⟨rfl, put, hput, ?_⟩
            (conv => whnf)
            refine ⟨rfl, ?_⟩
            (conv => whnf)
            refine ⟨⟨rfl, rfl, rfl, by simp⟩, by simp [room]; omega, (acc ++ [(⟨x.t, ⟨#[]⟩⟩ : Cn)]).map cnP, by rw [List.take_of_length_le (by simp), List.map_append]; rfl, ?_⟩
            (conv => whnf)
            refine splitB_t rfl ?_
            (conv => whnf)
            rw [hres]
            exact ⟨rfl, rfl⟩
          refine splitB_f (toList_nbeq.2 h2) ?_
          (conv => whnf)
          by_cases h3 : x.t = falseS
          · refine splitB_t (toList_beq.2 h3) ?_
            (conv => whnf)
            rw [if_pos (.inr (.inr h3))] at hres
            refine ⟨rfl, ?_⟩
            (conv => whnf)
            refine ⟨rfl, put, hput, ?_⟩
            (conv => whnf)
            refine ⟨rfl, ?_⟩
            (conv => whnf)
            refine ⟨⟨rfl, rfl, rfl, by simp⟩, by simp [room]; omega, (acc ++ [(⟨x.t, ⟨#[]⟩⟩ : Cn)]).map cnP, by rw [List.take_of_length_le (by simp), List.map_append]; rfl, ?_⟩
            (conv => whnf)
            refine splitB_t rfl ?_
            (conv => whnf)
            rw [hres]
            exact ⟨rfl, rfl⟩
          have hno : ¬ (¬ (x.k = 1) ∨ x.t = trueS ∨ x.t = falseS) := fun h => h.elim (fun h => h hk1) fun h => h.elim h2 h3
          rw [if_neg hno] at hres hne1
          refine splitB_f (toList_nbeq.2 h3) ?_
          (conv => whnf)
          obtain ⟨c, w, hcw⟩ : ∃ c w, x.t.data.toList = c :: w := by
            unfold nameB at hname
            cases hx : x.t.data.toList with
            | nil => rw [hx] at hname; cases hname
            | cons c w => exact ⟨c, w, rfl⟩
          refine ⟨c, ⟨by decide, by rw [hcw]; rfl⟩, ?_⟩
          (conv => whnf)
          rw [hcw] at hres hne1
          refine splitB_eq (fun h4 => ?_) (fun h4 => ?_)
          · (conv => whnf)
            rw [if_pos (by rw [u8_of 95 h4 rfl]; rfl)] at hres
            refine ⟨rfl, ?_⟩
            (conv => whnf)
            refine ⟨rfl, put, hput, ?_⟩
            (conv => whnf)
            refine ⟨rfl, ?_⟩
            (conv => whnf)
            refine ⟨⟨rfl, rfl, rfl, by simp⟩, by simp [room]; omega, (acc ++ [(⟨x.t, ⟨#[]⟩⟩ : Cn)]).map cnP, by rw [List.take_of_length_le (by simp), List.map_append]; rfl, ?_⟩
            (conv => whnf)
            refine splitB_t rfl ?_
            (conv => whnf)
            rw [hres]
            exact ⟨rfl, rfl⟩
          rw [if_neg (by intro e; simp only [List.head?_cons, Option.some.injEq] at e; exact u8_ne 95 h4 rfl e)] at hres hne1
          (conv => whnf)
          cases hk : known acc x.t with
          | true =>
            refine splitB_t rfl ?_
            (conv => whnf)
            rw [if_pos hk] at hres
            refine ⟨rfl, ?_⟩
            (conv => whnf)
            refine ⟨rfl, put, hput, ?_⟩
            (conv => whnf)
            refine ⟨rfl, ?_⟩
            (conv => whnf)
            refine ⟨⟨rfl, rfl, rfl, by simp⟩, by simp [room]; omega, (acc ++ [(⟨x.t, ⟨#[]⟩⟩ : Cn)]).map cnP, by rw [List.take_of_length_le (by simp), List.map_append]; rfl, ?_⟩
            (conv => whnf)
            refine splitB_t rfl ?_
            (conv => whnf)
            rw [hres]
            exact ⟨rfl, rfl⟩
          | false =>
            refine splitB_f rfl ?_
            (conv => whnf)
            rw [if_neg (by rw [hk]; simp)] at hres hne1
            refine ⟨rfl, ?_⟩
            (conv => whnf)
            have h5 : acc.length = 256 := Classical.byContradiction fun h => hne1 (if_neg h)
            rw [if_pos h5] at hres
            refine splitB_t (by rw [h5]; rfl) ?_
            (conv => whnf)
            refine ⟨rfl, ?_⟩
            (conv => whnf)
            refine ⟨rfl, put, hput, ?_⟩
            (conv => whnf)
            refine ⟨rfl, ?_⟩
            (conv => whnf)
            refine ⟨⟨rfl, rfl, rfl, by simp⟩, by simp [room]; omega, (acc ++ [(⟨x.t, ⟨#[]⟩⟩ : Cn)]).map cnP, by rw [List.take_of_length_le (by simp), List.map_append]; rfl, ?_⟩
            (conv => whnf)
            refine splitB_t rfl ?_
            (conv => whnf)
            rw [hres]
            exact ⟨rfl, rfl⟩
        · refine splitB_t (bne_iff_ne.2 hk1) ?_
          (conv => whnf)
          refine splitB_t (bne_iff_ne.2 hk1) ?_
          (conv => whnf)
          have hE : nameE x acc = 150 := by unfold nameE; rw [if_pos (.inl hk1)]
          rw [hE] at hres
          refine ⟨rfl, ?_⟩
          (conv => whnf)
          refine ⟨rfl, put, hput, ?_⟩
          (conv => whnf)
          refine ⟨rfl, ?_⟩
          (conv => whnf)
          refine ⟨⟨rfl, rfl, rfl, by simp⟩, by simp [room]; omega, (acc ++ [(⟨x.t, ⟨#[]⟩⟩ : Cn)]).map cnP, by rw [List.take_of_length_le (by simp), List.map_append]; rfl, ?_⟩
          (conv => whnf)
          refine splitB_t rfl ?_
          (conv => whnf)
          rw [hres]
          exact ⟨rfl, rfl⟩
      · unfold nameE at h0
        split at h0
        · cases h0
        rename_i hno
        split at h0
        · cases h0
        rename_i h95
        split at h0
        · cases h0
        rename_i hkn0
        split at h0
        · cases h0
        rename_i h256
        have hk1 : x.k = 1 := Classical.byContradiction fun h => hno (.inl h)
        have h2 : ¬ x.t = trueS := fun h => hno (.inr (.inl h))
        have h3 : ¬ x.t = falseS := fun h => hno (.inr (.inr h))
        have hk : known acc x.t = false := by cases hh : known acc x.t with | false => rfl | true => exact absurd hh hkn0
        have hname := hnx hk1
        obtain ⟨c, w, hcw⟩ : ∃ c w, x.t.data.toList = c :: w := by
          unfold nameB at hname
          cases hx : x.t.data.toList with
          | nil => rw [hx] at hname; cases hname
          | cons c w => exact ⟨c, w, rfl⟩
        rw [hk] at hv
        have htn : tix x.t (acc.map (·.n)) = none := by
          rw [hkn] at hk
          cases hh : tix x.t (acc.map (·.n)) with
          | none => rfl
          | some k => rw [hh] at hk; cases hk
        have hnew := tix_new x.t (acc.map (·.n)) 0 htn
        rw [Nat.zero_add, List.length_map] at hnew
        refine hR2 _ _ _ ?_
        (conv => whnf)
        refine splitB_t (decide_eq_true (by omega)) ?_
        (conv => whnf)
        refine ⟨rfl, tkP x, ⟨by omega, by rw [Int.toNat_natCast, List.getElem?_map, hx]; rfl⟩, ?_⟩
        (conv => whnf)
        refine ⟨by decide, ?_⟩
        (conv => whnf)
        refine splitB_t (by rw [tmod3_0]; rfl) ?_
        (conv => whnf)
        refine ⟨rfl, _, hfind, ?_⟩
        (conv => whnf)
        rw [hv]
        (conv => whnf)
        refine splitB_f (by rw [hk1]; rfl) ?_
        (conv => whnf)
        refine splitB_f (toList_nbeq.2 h2) ?_
        (conv => whnf)
        refine splitB_f (toList_nbeq.2 h3) ?_
        (conv => whnf)
        refine ⟨c, ⟨by decide, by rw [hcw]; rfl⟩, ?_⟩
        (conv => whnf)
        refine splitB_f (beq_eq_false_iff_ne.2 fun h => h95 (by rw [hcw, u8_of 95 h rfl]; rfl)) ?_
        (conv => whnf)
        refine splitB_f rfl ?_
        (conv => whnf)
        refine ⟨rfl, ?_⟩
        (conv => whnf)
        refine splitB_f (beq_eq_false_iff_ne.2 (by omega)) ?_
        (conv => whnf)
        refine ⟨rfl, ?_⟩
        (conv => whnf)
        refine ⟨rfl, _, hnew, ?_⟩
        (conv => whnf)
        refine ⟨rfl, ?_⟩
        (conv => whnf)
        refine ⟨⟨rfl, rfl, rfl, by simp⟩, by simp [room]; omega, (acc ++ [(⟨x.t, ⟨#[]⟩⟩ : Cn)]).map cnP, by rw [List.take_of_length_le (by simp), List.map_append]; rfl, ?_⟩
        (conv => whnf)
        refine splitB_f rfl ?_
        (conv => whnf)
        rw [IntWalk.i64_in _ (by omega)]
        rw [List.map_append] at hgo
        exact hgo
    have two : ∀ (m : List (PV × PV)) (l : List Cn) (j g : Nat) (y : Tok), ts[3 * j + 1]? = some y →
        (¬ isEq y → cG s.size ts [] = .err y.a 150 → R [(0, .p (.str s)), (5, .p (.list 4 (ts.map tkP))), (7, .p (.int .i64 0)), (8, .mapr (.l 0)), (9, .view (.l 1) g 2 l.length), (25, .p (.list 4 (ts.map tkP))), (26, .p (.int .i64 (ts.map tkP).length)), (27, .p (.int .i64 (3 * j + 1 : Nat)))] H [.map m, .buf g 2 (l.map cnP)]) ∧
        (isEq y → R [(0, .p (.str s)), (5, .p (.list 4 (ts.map tkP))), (7, .p (.int .i64 0)), (8, .mapr (.l 0)), (9, .view (.l 1) g 2 l.length), (25, .p (.list 4 (ts.map tkP))), (26, .p (.int .i64 (ts.map tkP).length)), (27, .p (.int .i64 (3 * j + 2 : Nat)))] H [.map m, .buf g 2 (l.map cnP)] → R [(0, .p (.str s)), (5, .p (.list 4 (ts.map tkP))), (7, .p (.int .i64 0)), (8, .mapr (.l 0)), (9, .view (.l 1) g 2 l.length), (25, .p (.list 4 (ts.map tkP))), (26, .p (.int .i64 (ts.map tkP).length)), (27, .p (.int .i64 (3 * j + 1 : Nat)))] H [.map m, .buf g 2 (l.map cnP)]) := by
      intro m l j g y hy
      have hil := (List.getElem?_eq_some_iff.1 hy).1
      refine ⟨fun hne hres => ?_, fun h0 hgo => ?_⟩
      · refine hR2 _ _ _ ?_
        (conv => whnf)
        refine splitB_t (decide_eq_true (by omega)) ?_
        (conv => whnf)
        refine ⟨rfl, tkP y, ⟨by omega, by rw [Int.toNat_natCast, List.getElem?_map, hy]; rfl⟩, ?_⟩
        (conv => whnf)
        refine ⟨by decide, ?_⟩
        (conv => whnf)
        refine splitB_f (by rw [tmod3_1]; rfl) ?_
        (conv => whnf)
        refine splitB_t (by rw [tmod3_1]; rfl) ?_
        (conv => whnf)
        by_cases h6 : y.k = 6
        · refine splitB_f (by rw [h6]; rfl) ?_
          (conv => whnf)
          refine splitB_t (bne_iff_ne.2 fun e => hne ⟨h6, toList_eq.1 e⟩) ?_
          (conv => whnf)
          refine splitB_t rfl ?_
          (conv => whnf)
          rw [hres]
          exact ⟨rfl, rfl⟩
        · refine splitB_t (bne_iff_ne.2 h6) ?_
          (conv => whnf)
          refine splitB_t rfl ?_
          (conv => whnf)
          refine splitB_t rfl ?_
          (conv => whnf)
          rw [hres]
          exact ⟨rfl, rfl⟩
      · refine hR2 _ _ _ ?_
        (conv => whnf)
        refine splitB_t (decide_eq_true (by omega)) ?_
        (conv => whnf)
        refine ⟨rfl, tkP y, ⟨by omega, by rw [Int.toNat_natCast, List.getElem?_map, hy]; rfl⟩, ?_⟩
        (conv => whnf)
        refine ⟨by decide, ?_⟩
        (conv => whnf)
        refine splitB_f (by rw [tmod3_1]; rfl) ?_
        (conv => whnf)
        refine splitB_t (by rw [tmod3_1]; rfl) ?_
        (conv => whnf)
        refine splitB_f (by rw [h0.1]; rfl) ?_
        (conv => whnf)
        refine splitB_f (by rw [h0.2]; exact bne_self_eq_false _) ?_
        (conv => whnf)
        refine splitB_f rfl ?_
        (conv => whnf)
        rw [IntWalk.i64_in _ (by omega)]
        exact hgo
    have three : ∀ (m : List (PV × PV)) (acc : List Cn) (t e : ByteArray) (j g : Nat) (z : Tok), ts[3 * j + 2]? = some z → acc.length = j →
        (¬ (z.k = 4) → cG s.size ts [] = .err z.a 150 → R [(0, .p (.str s)), (5, .p (.list 4 (ts.map tkP))), (7, .p (.int .i64 0)), (8, .mapr (.l 0)), (9, .view (.l 1) g 2 (acc.length + 1)), (25, .p (.list 4 (ts.map tkP))), (26, .p (.int .i64 (ts.map tkP).length)), (27, .p (.int .i64 (3 * j + 2 : Nat)))] H [.map m, .buf g 2 ((acc ++ [(⟨t, e⟩ : Cn)]).map cnP)]) ∧
        (z.k = 4 → R [(0, .p (.str s)), (5, .p (.list 4 (ts.map tkP))), (7, .p (.int .i64 0)), (8, .mapr (.l 0)), (9, .view (.l 1) g 2 (acc.length + 1)), (25, .p (.list 4 (ts.map tkP))), (26, .p (.int .i64 (ts.map tkP).length)), (27, .p (.int .i64 (3 * (j + 1) : Nat)))] H [.map m, .buf g 2 ((acc ++ [(⟨t, z.t⟩ : Cn)]).map cnP)] → R [(0, .p (.str s)), (5, .p (.list 4 (ts.map tkP))), (7, .p (.int .i64 0)), (8, .mapr (.l 0)), (9, .view (.l 1) g 2 (acc.length + 1)), (25, .p (.list 4 (ts.map tkP))), (26, .p (.int .i64 (ts.map tkP).length)), (27, .p (.int .i64 (3 * j + 2 : Nat)))] H [.map m, .buf g 2 ((acc ++ [(⟨t, e⟩ : Cn)]).map cnP)]) := by
      intro m acc t e j g z hz hj
      have hil := (List.getElem?_eq_some_iff.1 hz).1
      refine ⟨fun hne hres => ?_, fun h0 hgo => ?_⟩
      · refine hR2 _ _ _ ?_
        (conv => whnf)
        refine splitB_t (decide_eq_true (by omega)) ?_
        (conv => whnf)
        refine ⟨rfl, tkP z, ⟨by omega, by rw [Int.toNat_natCast, List.getElem?_map, hz]; rfl⟩, ?_⟩
        (conv => whnf)
        refine ⟨by decide, ?_⟩
        (conv => whnf)
        refine splitB_f (by rw [tmod3_2]; rfl) ?_
        (conv => whnf)
        refine splitB_f (by rw [tmod3_2]; rfl) ?_
        (conv => whnf)
        refine splitB_t (by rw [tmod3_2]; rfl) ?_
        (conv => whnf)
        refine splitB_t (bne_iff_ne.2 hne) ?_
        (conv => whnf)
        refine ⟨rfl, ?_⟩
        (conv => whnf)
        rw [show IntKind.i64.wrap (((acc.length + 1 : Nat) : Int) - 1) = (acc.length : Int) by rw [IntWalk.i64_in _ (by omega)]; omega]
        refine ⟨⟨rfl, by omega, by omega⟩, rfl, ?_⟩
        (conv => whnf)
        refine ⟨by (conv => whnf); simp, ⟨rfl, rfl⟩, cnP ⟨t, e⟩, by rw [Int.toNat_natCast, List.getElem?_map, List.getElem?_append_right (Nat.le_refl _), Nat.sub_self]; rfl, ?_⟩
        (conv => whnf)
        refine splitB_t rfl ?_
        (conv => whnf)
        rw [hres]
        exact ⟨rfl, rfl⟩
      · refine hR2 _ _ _ ?_
        (conv => whnf)
        refine splitB_t (decide_eq_true (by omega)) ?_
        (conv => whnf)
        refine ⟨rfl, tkP z, ⟨by omega, by rw [Int.toNat_natCast, List.getElem?_map, hz]; rfl⟩, ?_⟩
        (conv => whnf)
        refine ⟨by decide, ?_⟩
        (conv => whnf)
        refine splitB_f (by rw [tmod3_2]; rfl) ?_
        (conv => whnf)
        refine splitB_f (by rw [tmod3_2]; rfl) ?_
        (conv => whnf)
        refine splitB_t (by rw [tmod3_2]; rfl) ?_
        (conv => whnf)
        refine splitB_f (by rw [h0]; rfl) ?_
        (conv => whnf)
        refine ⟨rfl, ?_⟩
        (conv => whnf)
        rw [show IntKind.i64.wrap (((acc.length + 1 : Nat) : Int) - 1) = (acc.length : Int) by rw [IntWalk.i64_in _ (by omega)]; omega]
        refine ⟨⟨rfl, by omega, by omega⟩, rfl, ?_⟩
        (conv => whnf)
        refine ⟨by (conv => whnf); simp, ⟨rfl, rfl⟩, cnP ⟨t, e⟩, by rw [Int.toNat_natCast, List.getElem?_map, List.getElem?_append_right (Nat.le_refl _), Nat.sub_self]; rfl, ?_⟩
        (conv => whnf)
        refine splitB_f rfl ?_
        (conv => whnf)
        rw [IntWalk.i64_in _ (by omega)]
        have hset : (List.map cnP (acc ++ [(⟨t, e⟩ : Cn)])).set acc.length (.agg [.str t, .str z.t]) = (acc ++ [(⟨t, z.t⟩ : Cn)]).map cnP := by
          rw [List.map_append, List.map_append, List.set_append_right _ _ (by simp)]
          simp [cnP]
        rw [← hset] at hgo
        exact hgo
    have key : ∀ (us : List Tok) (acc : List Cn) (j g : Nat), ts.drop (3 * j) = us → cG s.size us acc = cG s.size ts [] → acc.length = j → 3 * j + us.length = ts.length →
        R [(0, .p (.str s)), (5, .p (.list 4 (ts.map tkP))), (7, .p (.int .i64 0)), (8, .mapr (.l 0)), (9, .view (.l 1) g 2 acc.length), (25, .p (.list 4 (ts.map tkP))), (26, .p (.int .i64 (ts.map tkP).length)), (27, .p (.int .i64 (3 * j : Nat)))] H
          [.map (mP 0 (acc.map (·.n))), .buf g 2 (acc.map cnP)] := by
      refine threes ?_ ?_ ?_ ?_
      · intro acc j g hd hq hj hjl
        rw [List.length_nil] at hjl
        have hi := drop_nil hd
        refine hR2 _ _ _ ?_
        (conv => whnf)
        refine splitB_f (decide_eq_false (by omega)) ?_
        (conv => whnf)
        refine ⟨by decide, ?_⟩
        (conv => whnf)
        refine splitB_f (by rw [hml, ← hjl, Nat.add_zero, tmod3_0]; rfl) ?_
        (conv => whnf)
        simp only [cG] at hq
        refine ⟨⟨rfl, rfl⟩, .inl ⟨_, by simp, List.take_of_length_le (by simp), ?_⟩⟩
        rw [← hq]
        exact ⟨rfl, rfl⟩
      · intro x acc j g hd hq hj hjl
        obtain ⟨hg, hd', hil⟩ := drop_cons hd
        simp only [cG] at hq
        by_cases hE : nameE x acc = 0
        · rw [if_neg (by simpa using hE)] at hq
          refine (one acc j g x hg hj).2 hE ?_
          refine hR2 _ _ _ ?_
          (conv => whnf)
          simp only [List.length_cons, List.length_nil] at hjl
          refine splitB_f (decide_eq_false (by omega)) ?_
          (conv => whnf)
          refine ⟨by decide, ?_⟩
          (conv => whnf)
          refine splitB_t (by rw [hml, ← hjl, tmod3_1]; rfl) ?_
          (conv => whnf)
          rw [← hq]
          exact ⟨rfl, rfl⟩
        · rw [if_pos hE] at hq
          exact (one acc j g x hg hj).1 hE hq.symm
      · intro x y acc j g hd hq hj hjl
        obtain ⟨hg, hd', hil⟩ := drop_cons hd
        obtain ⟨hg2, hd2, hil2⟩ := drop_cons hd'
        simp only [cG] at hq
        by_cases hE : nameE x acc = 0
        · rw [if_neg (by simpa using hE)] at hq
          refine (one acc j g x hg hj).2 hE ?_
          have hln : (acc ++ [(⟨x.t, ⟨#[]⟩⟩ : Cn)]).length = acc.length + 1 := by simp
          have tw := two (mP 0 ((acc ++ [(⟨x.t, ⟨#[]⟩⟩ : Cn)]).map (·.n))) (acc ++ [(⟨x.t, ⟨#[]⟩⟩ : Cn)]) j (g + 1) y hg2
          rw [hln] at tw
          by_cases hY : isEq y
          · rw [if_neg (by simpa using hY)] at hq
            refine tw.2 hY ?_
            refine hR2 _ _ _ ?_
            (conv => whnf)
            simp only [List.length_cons, List.length_nil] at hjl
            refine splitB_f (decide_eq_false (by omega)) ?_
            (conv => whnf)
            refine ⟨by decide, ?_⟩
            (conv => whnf)
            refine splitB_t (by rw [hml, ← hjl, tmod3_2]; rfl) ?_
            (conv => whnf)
            rw [← hq]
            exact ⟨rfl, rfl⟩
          · rw [if_pos hY] at hq
            exact tw.1 hY hq.symm
        · rw [if_pos hE] at hq
          exact (one acc j g x hg hj).1 hE hq.symm
      · intro x y z r ih acc j g hd hq hj hjl
        obtain ⟨hg, hd', hil⟩ := drop_cons hd
        obtain ⟨hg2, hd2, hil2⟩ := drop_cons hd'
        obtain ⟨hg3, hd3, hil3⟩ := drop_cons hd2
        simp only [cG] at hq
        by_cases hE : nameE x acc = 0
        · rw [if_neg (by simpa using hE)] at hq
          refine (one acc j g x hg hj).2 hE ?_
          have hln : (acc ++ [(⟨x.t, ⟨#[]⟩⟩ : Cn)]).length = acc.length + 1 := by simp
          have tw := two (mP 0 ((acc ++ [(⟨x.t, ⟨#[]⟩⟩ : Cn)]).map (·.n))) (acc ++ [(⟨x.t, ⟨#[]⟩⟩ : Cn)]) j (g + 1) y hg2
          rw [hln] at tw
          by_cases hY : isEq y
          · rw [if_neg (by simpa using hY)] at hq
            refine tw.2 hY ?_
            have th := three (mP 0 ((acc ++ [(⟨x.t, ⟨#[]⟩⟩ : Cn)]).map (·.n))) acc x.t ⟨#[]⟩ j (g + 1) z hg3 hj
            by_cases hZ : z.k = 4
            · rw [if_neg (by simpa using hZ)] at hq
              refine th.2 hZ ?_
              have q := ih (acc ++ [(⟨x.t, z.t⟩ : Cn)]) (j + 1) (g + 1) (by rw [← hd3]; congr 1) hq (by simp [hj]) (by simp only [List.length_cons] at hjl; omega)
              rw [show (acc ++ [(⟨x.t, z.t⟩ : Cn)]).length = acc.length + 1 by simp, show (acc ++ [(⟨x.t, z.t⟩ : Cn)]).map (·.n) = (acc ++ [(⟨x.t, ⟨#[]⟩⟩ : Cn)]).map (·.n) by simp] at q
              exact q
            · rw [if_pos hZ] at hq
              exact th.1 hZ hq.symm
          · rw [if_pos hY] at hq
            exact tw.1 hY hq.symm
        · rw [if_pos hE] at hq
          exact (one acc j g x hg hj).1 hE hq.symm
    exact key ts [] 0 0 rfl rfl rfl (by simp)

end Go.Proofs.Ytnbkbmpjggemaaa.AD
