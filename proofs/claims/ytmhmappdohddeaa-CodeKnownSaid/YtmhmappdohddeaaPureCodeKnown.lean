/- The plain statement of CodeKnown: the examples of the chapter, and what bounds ask. -/
import Derived.Test.YtmhmappdohddeaaCodeF
import Derived.Test.YtmhmappdohddeaaStatCodeKnown
import Derived.KernelRfl
namespace Go.Proofs.Ytmhmappdohddeaa.Pure
open Go.RowKit Go.Proofs.YtmhmappdohddeaaW.PrintWords Go.Proofs.Ytmhmappdohddeaa.H Go.Proofs.Ytmhmappdohddeaa.CodeA Go.Proofs.Ytmhmappdohddeaa.CodeB Go.Proofs.Ytmhmappdohddeaa.CodeC Go.Proofs.Ytmhmappdohddeaa.CodeD Go.Proofs.Ytmhmappdohddeaa.CodeE Go.Proofs.Ytmhmappdohddeaa.CodeF Go.Proofs.Ytmhmappdohddeaa.PCodeKnown
set_option linter.unusedVariables false
set_option linter.unusedSimpArgs false

theorem evpos {α : Type} {c : Prop} [Decidable c] {a b : Nat → Option α} {t : α} (hc : c) (h : Ev a t) : Ev (fun k => if c then a k else b k) t := Ev.congr (fun k => if_pos hc) h
theorem evneg {α : Type} {c : Prop} [Decidable c] {a b : Nat → Option α} {t : α} (hc : ¬ c) (h : Ev b t) : Ev (fun k => if c then a k else b k) t := Ev.congr (fun k => if_neg hc) h

theorem wrong_ev (s : ByteArray) (e at_ : Int) (hs : (s.size : Int) ≤ 9223372036854775807) (hd : CodeF.decode (numsOf s) = (0, [], [], 0, at_, e)) : Ev (fun k => vouchlaw21_wrong.f k s e at_) true := by
  have hb : ∀ c ∈ numsOf s, 0 ≤ c ∧ c ≤ 255 := by
    intro c hc
    unfold numsOf at hc
    obtain ⟨b, _, rfl⟩ := List.mem_map.1 hc
    have := b.toNat_lt
    omega
  have h := decode_f (numsOf s) hb
  rw [hd] at h
  unfold vouchlaw21_wrong.f
  refine evpos hs (Ev.bind h ?_)
  refine evpos (by rfl) (evpos rfl ?_)
  have : (e == e) = true := beq_self_eq_true e
  rw [this]
  exact Ev.now true
theorem kcheck_f (kd : Int) (ts : List ByteArray) (xs : List S41) (st : Int) (hs : ∀ s ∈ ts, s.size ≤ 140737488351232) (hxl : xs.length ≤ 9223372036854775807) {r : Int} (hr : (encode kd ts xs st).2 = r) : Ev (fun k => code_Check.f k kd ts xs st) r := by
  unfold code_Check.f
  rw [← hr]
  exact Ev.bind (encode_f kd ts xs st hs hxl) (Ev.now _)
theorem encode_may {kd : Int} {ts : List ByteArray} {xs : List S41} {st : Int} {c : Int} (h : may kd ts xs st = c) (hc : c ≠ 0) : (encode kd ts xs st).2 = c := by
  unfold encode
  rw [h, if_neg hc]

theorem kenc_length (kd : Int) (ts : List ByteArray) (xs : List S41) (st : Int) : (enc kd ts xs st).length = 3 + (put st.toNat).length + (put ts.length).length + (put xs.length).length + (xs.flatMap ins).length + (ts.flatMap txt).length := by
  unfold enc
  simp only [List.length_append, List.length_cons, List.length_nil]
  omega
theorem ktxt_length (s : ByteArray) : (txt s).length = (put s.size).length + s.size := by
  unfold txt
  rw [List.length_append, bytesOf_length]
theorem put_len3 (n : Nat) (h0 : 16384 ≤ n) (h1 : n < 2097152) : (put n).length = 3 := by
  rw [put_large (by omega), put_large (by omega), put_small (by omega)]
  rfl

/-- One long text. -/
theorem one_text (s : ByteArray) (h0 : 16384 ≤ s.size) (h1 : s.size < 2097152) : (encode 1 [s] [] 0).2 = if s.size + 9 > 1048576 then 3 else 0 := by
  have hm : may 1 [s] [] 0 = 0 := by
    unfold may
    rw [if_neg (by simp), if_neg]
    rintro (h | h | h)
    · exact h (.inl rfl)
    · exact absurd h (by decide)
    · simp at h
  have hl : (enc 1 [s] [] 0).length = s.size + 9 := by
    rw [kenc_length]
    have p0 : put 0 = [0] := put_small (by omega)
    have p1 : put 1 = [1] := put_small (by omega)
    simp only [List.flatMap_cons, List.flatMap_nil, List.append_nil, ktxt_length, put_len3 s.size h0 h1, List.length_nil, List.length_cons, Nat.zero_add, Int.toNat_zero, p0, p1]
    omega
  unfold encode
  rw [if_pos hm, hl]
  split <;> rfl

def bad : List S25 := ([(⟨0, ([] : List ByteArray), (([(⟨33, 0, 0⟩ : S41)] : List (S41))), 0⟩ : S25), (⟨3, ([] : List ByteArray), ([] : List (S41)), 0⟩ : S25), (⟨1, ([] : List ByteArray), ([] : List (S41)), (-1)⟩ : S25), (⟨1, ([] : List ByteArray), ([] : List (S41)), 2147483648⟩ : S25), (⟨1, ([] : List ByteArray), (([(⟨33, 1, 0⟩ : S41)] : List (S41))), 0⟩ : S25), (⟨1, ([] : List ByteArray), (([(⟨1, 0, 1⟩ : S41)] : List (S41))), 0⟩ : S25), (⟨1, ([] : List ByteArray), (([(⟨0, 0, 0⟩ : S41)] : List (S41))), 0⟩ : S25), (⟨1, ([] : List ByteArray), (([(⟨39, 0, 0⟩ : S41)] : List (S41))), 0⟩ : S25), (⟨1, ([] : List ByteArray), (([(⟨37, (-1), 0⟩ : S41)] : List (S41))), 0⟩ : S25), (⟨1, ([] : List ByteArray), (([(⟨28, 2147483648, 0⟩ : S41)] : List (S41))), 0⟩ : S25)] : List (S25))
theorem bad_may : ∀ i : Fin 10, may (rd_T25 bad ((i.val : Nat) : Int)).f0 (rd_T25 bad ((i.val : Nat) : Int)).f1 (rd_T25 bad ((i.val : Nat) : Int)).f2 (rd_T25 bad ((i.val : Nat) : Int)).f3 = 210 := by decide +kernel
theorem bad_small : ∀ i : Fin 10, (rd_T25 bad ((i.val : Nat) : Int)).f1.length = 0 ∧ (rd_T25 bad ((i.val : Nat) : Int)).f2.length ≤ 1 := by decide +kernel

theorem known_l0 (h : Ev (fun k => vouchlaw21_CodeKnown.l1 k true true true true (⟨#[120, 120, 120, 120, 120, 120, 120, 120]⟩ : ByteArray)) true) (n : Nat) : ∀ i : Nat, i + n = 10 → Ev (fun k => vouchlaw21_CodeKnown.l0 k true true true true bad (i : Int)) true := by
  induction n with
  | zero =>
    intro i hi
    refine Ev.step (fun k => ?_) h
    have hl : bad.length = 10 := rfl
    show (if _ then _ else _) = _
    rw [if_neg (by rw [hl]; omega)]
  | succ n ih =>
    intro i hi
    have hl : bad.length = 10 := rfl
    obtain ⟨b1, b2⟩ := bad_small ⟨i, by omega⟩
    have bm := bad_may ⟨i, by omega⟩
    have hc := kcheck_f (rd_T25 bad (i : Int)).f0 (rd_T25 bad (i : Int)).f1 (rd_T25 bad (i : Int)).f2 (rd_T25 bad (i : Int)).f3 (by
      intro s hs
      rw [List.eq_nil_of_length_eq_zero b1] at hs
      cases hs) (Nat.le_trans (show (rd_T25 bad (i : Int)).f2.length ≤ 1 from b2) (by omega)) (encode_may bm (by decide))
    have hw : wrap64 ((i : Int) + 1) = ((i + 1 : Nat) : Int) := by unfold wrap64; omega
    refine Ev.step (fun k => by show (if _ then _ else _) = _; rw [if_pos (by rw [hl]; omega), if_pos (by omega), hw]) (Ev.bind hc ?_)
    exact evpos rfl (ih (i + 1) (by clear hw; omega))

theorem dec_x {b : List Int} (h : b[0]? = some 120) : dec b = .er 210 0 := by
  have : oct b (· == 86) 0 = .er 210 0 := by
    unfold oct
    rw [h]
    rfl
  unfold dec dec0
  rw [this]
  rfl

def Xs (s : ByteArray) (m : Nat) : Prop := s.size = m ∧ s.data[0]? = some 120
theorem xs_twice {s : ByteArray} {m : Nat} (h : Xs s m) (hm : 0 < m) : Xs (s ++ s) (m + m) := by
  obtain ⟨h1, h2⟩ := h
  refine ⟨by rw [ByteArray.size_append, h1], ?_⟩
  rw [ByteArray.data_append, Array.getElem?_append_left (by show 0 < s.size; omega)]
  exact h2
theorem nums0 {s : ByteArray} {m : Nat} (h : Xs s m) : (numsOf s)[0]? = some 120 := by
  unfold numsOf
  rw [List.getElem?_map, Array.getElem?_toList, h.2]
  rfl

theorem known_l1 (h6 : Ev (fun k => vouchlaw21_CodeKnown.j6 k true true true true true) true) (d : Nat) : ∀ (e : Nat) (s : ByteArray), e + d = 20 → 3 ≤ e → Xs s (2 ^ e) → Ev (fun k => vouchlaw21_CodeKnown.l1 k true true true true s) true := by
  induction d with
  | zero =>
    intro e s he h3 hx
    obtain rfl : e = 20 := by omega
    have hsz : s.size = 1048576 := hx.1
    have z1 : (s.extract 0 1048567).size = 1048567 := by rw [ByteArray.size_extract]; omega
    have z2 : (s.extract 0 1048568).size = 1048568 := by rw [ByteArray.size_extract]; omega
    have hone : ∀ u : ByteArray, u.size ≤ 1048577 → ∀ s ∈ [u], s.size ≤ 140737488351232 := by
      intro u hu s hs
      rw [List.mem_singleton] at hs
      subst hs
      omega
    have c1 := kcheck_f 1 [s] [] 0 (hone s (by omega)) (by simp) (by rw [one_text s (by omega) (by omega), if_pos (by omega)] : (encode 1 [s] [] 0).2 = 3)
    have c2 := kcheck_f 1 [s.extract 0 1048567] [] 0 (hone _ (by omega)) (by simp) (by rw [one_text _ (by omega) (by omega), if_neg (by omega)] : (encode 1 [s.extract 0 1048567] [] 0).2 = 0)
    have c3 := kcheck_f 1 [s.extract 0 1048568] [] 0 (hone _ (by omega)) (by simp) (by rw [one_text _ (by omega) (by omega), if_pos (by omega)] : (encode 1 [s.extract 0 1048568] [] 0).2 = 3)
    have hap : (s ++ (⟨#[120]⟩ : ByteArray)).size = 1048577 := by rw [ByteArray.size_append, hsz]; rfl
    have w1 := wrong_ev (s ++ (⟨#[120]⟩ : ByteArray)) 3 0 (by rw [hap]; omega) (by
      unfold CodeF.decode
      rw [if_pos (by rw [numsOf_length, hap]; omega)])
    have w2 := wrong_ev s 210 0 (by rw [hsz]; omega) (by
      unfold CodeF.decode
      rw [if_neg (by rw [numsOf_length, hsz]; omega), dec_x (nums0 hx)]
      rfl)
    refine Ev.step (fun k => by show (if _ then _ else _) = _; rw [if_neg (by rw [hsz]; omega)]) (Ev.bind c1 ?_)
    refine evpos rfl (evpos (by omega) (evpos (by rw [hsz]; omega) (Ev.bind c2 ?_)))
    refine evpos rfl (evpos (by omega) (evpos (by rw [hsz]; omega) (Ev.bind c3 ?_)))
    refine evpos rfl (evpos (by rw [hsz]; omega) (Ev.bind w1 ?_))
    exact evpos rfl (Ev.bind w2 h6)
  | succ d ih =>
    intro e s he h3 hx
    have hp : 2 ^ e < 1048576 := by
      have : (2 : Nat) ^ e ≤ 2 ^ 19 := Nat.pow_le_pow_right (by omega) (by omega)
      have h19 : (2 : Nat) ^ 19 = 524288 := by decide
      omega
    have hq : 0 < 2 ^ e := Nat.pow_pos (by omega)
    have hsz : s.size = 2 ^ e := hx.1
    have h2 := xs_twice hx hq
    have e2 : 2 ^ e + 2 ^ e = 2 ^ (e + 1) := by rw [Nat.pow_succ]; omega
    rw [e2] at h2
    refine Ev.step (fun k => by show (if _ then _ else _) = _; rw [if_pos (by rw [hsz]; omega), if_pos (by rw [hsz]; omega)]) (ih (e + 1) (s ++ s) (by omega) (by omega) h2)

set_option maxRecDepth 100000 in
theorem known_j6 : Ev (fun k => vouchlaw21_CodeKnown.j6 k true true true true true) true := by
  have hrep : ∀ (n : Nat), ∀ s ∈ List.replicate n (⟨#[]⟩ : ByteArray), s.size ≤ 140737488351232 := by
    intro n s hs
    rw [List.eq_of_mem_replicate hs]
    decide
  have c1 := kcheck_f 0 [] (List.replicate 32769 z41) 0 (by intro s hs; cases hs) (by rw [List.length_replicate]; omega) (encode_may (c := 3) (by unfold may; rw [if_pos (.inl (by rw [List.length_replicate]; omega))]) (by decide))
  have c2 := kcheck_f 0 (List.replicate 8193 (⟨#[]⟩ : ByteArray)) [] 0 (hrep _) (by exact Nat.zero_le _) (encode_may (c := 3) (by unfold may; rw [if_pos (.inr (by rw [List.length_replicate]; omega))]) (by decide))
  have hlen : ∀ n : Nat, ((List.replicate n (⟨#[]⟩ : ByteArray)).flatMap txt).length = n := by
    intro n
    have ht : (txt (⟨#[]⟩ : ByteArray)).length = 1 := by
      rw [ktxt_length]
      have : (⟨#[]⟩ : ByteArray).size = 0 := rfl
      rw [this, put_small (by omega)]
      rfl
    induction n with
    | zero => rfl
    | succ n ih => rw [List.replicate_succ, List.flatMap_cons, List.length_append, ih, ht]; omega
  have hm : may 2 (List.replicate 8192 (⟨#[]⟩ : ByteArray)) [] 0 = 0 := by
    unfold may
    rw [if_neg (by rw [List.length_replicate]; rintro (h | h); exact absurd h (by decide); exact absurd h (by decide)), if_neg]
    rintro (h | h | h)
    · exact h (.inr rfl)
    · exact absurd h (by decide)
    · exact absurd h (by decide)
  have hl : (enc 2 (List.replicate 8192 (⟨#[]⟩ : ByteArray)) [] 0).length = 8199 := by
    rw [kenc_length, hlen, List.length_replicate]
    have p0 : put 0 = [0] := put_small (by omega)
    have p2 : (put 8192).length = 2 := by rw [put_large (by omega), put_small (by omega)]; rfl
    rw [p2]
    simp only [Int.toNat_zero, p0, List.length_nil, List.length_cons, List.flatMap_nil]
  have c3 := kcheck_f 2 (List.replicate 8192 (⟨#[]⟩ : ByteArray)) [] 0 (hrep _) (by exact Nat.zero_le _) (r := 0) (by
    unfold encode
    rw [if_pos hm, hl, if_neg (by omega)])
  refine Ev.step (fun k => by unfold vouchlaw21_CodeKnown.j6; with_reducible rfl) (evpos (by omega) (Ev.bind c1 ?_))
  refine evpos rfl (evpos (by omega) (Ev.bind c2 ?_))
  refine evpos rfl (evpos (by omega) (Ev.bind c3 ?_))
  refine evpos rfl (evpos rfl (evpos rfl (evpos rfl (evpos rfl (evpos rfl ?_)))))
  exact Ev.congr (fun k => by cases vouchlaw21_works.f k <;> rfl) works_f

theorem CodeKnown : vouchlaw21_CodeKnown.Pure := by
  have hk : Ev (fun k => vouchlaw21_CodeKnown.l1 k true true true true (⟨#[120, 120, 120, 120, 120, 120, 120, 120]⟩ : ByteArray)) true := known_l1 known_j6 17 3 _ rfl (by omega) ⟨rfl, rfl⟩
  have h0 := known_l0 hk 10 0 rfl
  have h3 : Ev (fun k => vouchlaw21_CodeKnown.j3 k true true true true) true := by
    refine Ev.step (fun k => ?_) h0
    rfl
  have hdec := decode_f [86, 80, 1, 255, 255, 255, 255, 7, 0, 1, 33] (by decide)
  have hd : CodeF.decode [86, 80, 1, 255, 255, 255, 255, 7, 0, 1, 33] = (1, [], [(⟨33, 0, 0⟩ : S41)], 2147483647, 0, 0) := by kernel_rfl
  rw [hd] at hdec
  have h2 : Ev (fun k => vouchlaw21_CodeKnown.j2 k true true true) true := by
    refine Ev.step (fun k => by show (code_Decode.f k _).bind _ = _; rfl) (Ev.bind hdec ?_)
    exact evpos rfl h3
  have h1 : Ev (fun k => vouchlaw21_CodeKnown.j1 k true true) true := by
    refine Ev.step (fun k => by show (vouchlaw21_wrong.f k _ _ _).bind _ = _; rfl) (Ev.bind (wrong_ev _ _ _ (by decide) (by kernel_rfl)) ?_)
    refine evpos rfl (Ev.bind (wrong_ev _ _ _ (by decide) (by kernel_rfl)) ?_)
    refine evpos rfl (Ev.bind (wrong_ev _ _ _ (by decide) (by kernel_rfl)) ?_)
    refine evpos rfl (Ev.bind (wrong_ev _ _ _ (by decide) (by kernel_rfl)) ?_)
    refine evpos rfl (Ev.bind (wrong_ev _ _ _ (by decide) (by kernel_rfl)) ?_)
    refine evpos rfl (Ev.bind (wrong_ev _ _ _ (by decide) (by kernel_rfl)) ?_)
    refine evpos rfl (Ev.bind (wrong_ev _ _ _ (by decide) (by kernel_rfl)) ?_)
    exact h2
  have hj0 : Ev (fun k => vouchlaw21_CodeKnown.j0 k true) true := by
    refine Ev.step (fun k => by show (vouchlaw21_wrong.f k _ _ _).bind _ = _; rfl) (Ev.bind (wrong_ev _ _ _ (by decide) (by kernel_rfl)) ?_)
    refine evpos rfl (Ev.bind (wrong_ev _ _ _ (by decide) (by kernel_rfl)) ?_)
    refine evpos rfl (Ev.bind (wrong_ev _ _ _ (by decide) (by kernel_rfl)) ?_)
    refine evpos rfl (Ev.bind (wrong_ev _ _ _ (by decide) (by kernel_rfl)) ?_)
    refine evpos rfl (Ev.bind (wrong_ev _ _ _ (by decide) (by kernel_rfl)) ?_)
    refine evpos rfl (Ev.bind (wrong_ev _ _ _ (by decide) (by kernel_rfl)) ?_)
    refine evpos rfl (Ev.bind (wrong_ev _ _ _ (by decide) (by kernel_rfl)) ?_)
    refine evpos rfl (Ev.bind (wrong_ev _ _ _ (by decide) (by kernel_rfl)) ?_)
    exact h1
  have he : encode 2 [(⟨#[97]⟩ : ByteArray)] [(⟨34, 0, 0⟩ : S41), (⟨37, 1, 1⟩ : S41), (⟨38, 0, 0⟩ : S41)] 300 = ([86, 80, 2, 172, 2, 1, 1, 97, 3, 34, 0, 37, 1, 1, 38], 0) := by
    have p0 : put 0 = [0] := put_small (by omega)
    have p1 : put 1 = [1] := put_small (by omega)
    have p3 : put 3 = [3] := put_small (by omega)
    have p300 : put 300 = [172, 2] := by rw [put_large (by omega), put_small (by omega)]; rfl
    have hsz : (⟨#[97]⟩ : ByteArray).size = 1 := rfl
    have hb : bytesOf (⟨#[97]⟩ : ByteArray) = [97] := rfl
    have hen : enc 2 [(⟨#[97]⟩ : ByteArray)] [(⟨34, 0, 0⟩ : S41), (⟨37, 1, 1⟩ : S41), (⟨38, 0, 0⟩ : S41)] 300 = [86, 80, 2, 172, 2, 1, 1, 97, 3, 34, 0, 37, 1, 1, 38] := by
      have q300 : (300 : Int).toNat = 300 := rfl
      unfold enc
      rw [q300, p300]
      simp [p0, p1, p3, txt, ins, hasA, hasB, ofS, hsz, hb]
    have hm : may 2 [(⟨#[97]⟩ : ByteArray)] [(⟨34, 0, 0⟩ : S41), (⟨37, 1, 1⟩ : S41), (⟨38, 0, 0⟩ : S41)] 300 = 0 := by kernel_rfl
    unfold encode
    rw [hm, hen]
    rfl
  have hen := encode_f 2 [(⟨#[97]⟩ : ByteArray)] [(⟨34, 0, 0⟩ : S41), (⟨37, 1, 1⟩ : S41), (⟨38, 0, 0⟩ : S41)] 300 (by decide) (by decide)
  rw [he] at hen
  refine Ev.rounds (g := fun k => vouchlaw21_CodeKnown.f k) ?_
  unfold vouchlaw21_CodeKnown.f
  refine Ev.bind hen (evpos rfl ?_)
  have hstr : ((strOfNums [86, 80, 2, 172, 2, 1, 1, 97, 3, 34, 0, 37, 1, 1, 38]).toList == ([86, 80, 2, 172, 2, 1, 1, 97, 3, 34, 0, 37, 1, 1, 38] : List UInt8)) = true := by
    rw [Lib.toList_data]
    decide
  simp only [hstr]
  exact hj0
end Go.Proofs.Ytmhmappdohddeaa.Pure
