/- The document's own Decode (vouchref21.Decode) answers what code.Decode answers: the instructions, the texts, the whole. -/
import Derived.Test.YtmhmappdohddeaaCodeI
namespace Go.Proofs.Ytmhmappdohddeaa.CodeJ
open Go.RowKit Go.Proofs.YtmhmappdohddeaaW.PrintWords Go.Proofs.Ytmhmappdohddeaa.H Go.Proofs.Ytmhmappdohddeaa.CodeA Go.Proofs.Ytmhmappdohddeaa.CodeB Go.Proofs.Ytmhmappdohddeaa.CodeC Go.Proofs.Ytmhmappdohddeaa.CodeD Go.Proofs.Ytmhmappdohddeaa.CodeE Go.Proofs.Ytmhmappdohddeaa.CodeF Go.Proofs.Ytmhmappdohddeaa.CodeG Go.Proofs.Ytmhmappdohddeaa.CodeH Go.Proofs.Ytmhmappdohddeaa.CodeI
set_option linter.unusedVariables false
set_option linter.unusedSimpArgs false

def MustIs (o : Out Int) (t : Int × Int × Int) : Prop :=
  match o with
  | .ok _ q => t = ((q : Int), 0, 0)
  | .er e f => e ≠ 0 ∧ ∃ p : Int, t = (p, e, (f : Int))
theorem must_f {b : List Int} {pos : Nat} (ha : At b pos) (v : Int) (hv : v ≠ 0) : ∃ t, vouchref21_reader_must.f b (pos : Int) 0 0 v = some t ∧ MustIs (oct b (· == v) pos) t := by
  have ho := octet_ok ha
  unfold oct vouchref21_reader_must.f
  rw [ho]
  cases hc : b[pos]? with
  | none =>
    refine ⟨((pos : Int), 210, (pos : Int)), ?_, by decide, (pos : Int), rfl⟩
    have : ¬ (0 : Int) = v := fun h => hv h.symm
    simp only [Option.bind_some, this, if_false]
    rw [fail_er b _ 210 _ _ _ (by decide)]
    rfl
  | some c =>
    by_cases h : c = v
    · refine ⟨(((pos + 1 : Nat) : Int), 0, 0), ?_, ?_⟩
      · simp only [Option.bind_some, h, if_true]
      · have : (c == v) = true := by rw [h]; exact beq_self_eq_true v
        simp only [this, if_true]
        rfl
    · refine ⟨(((pos + 1 : Nat) : Int), 210, (pos : Int)), ?_, ?_⟩
      · simp only [Option.bind_some, h, if_false]
        rw [fail_ok]
        rfl
      · have : (c == v) = false := by rw [beq_eq_false_iff_ne]; exact h
        simp only [this, Bool.false_eq_true, if_false]
        exact ⟨by decide, _, rfl⟩
theorem must_er (b : List Int) (s e f v : Int) (he : e ≠ 0) (hv : v ≠ 0) : vouchref21_reader_must.f b s e f v = some (s, e, f) := by
  unfold vouchref21_reader_must.f
  rw [octet_er b s e f he]
  have : ¬ (0 : Int) = v := fun h => hv h.symm
  simp only [Option.bind_some, this, if_false]
  rw [fail_er b s e f _ _ he]
  rfl

def OneIs (o : Out S41) (t : Int × Int × Int × Int × Int × Int) : Prop :=
  match o with
  | .ok x q => t = (x.1, x.2, x.3, (q : Int), 0, 0)
  | .er e f => e ≠ 0 ∧ ∃ o x y p : Int, t = (o, x, y, p, e, (f : Int))

theorem one_j0_t (b : List Int) (s e f op x y at_ : Int) : Ev (fun j => vouchref21_reader_one.j0 j at_ true b s e f op x y) (if e = 0 then (0, 0, 0, s, 210, at_) else (0, 0, 0, s, e, f)) := by
  refine Ev.step (f := fun _ => some (if e = 0 then (0, 0, 0, s, 210, at_) else (0, 0, 0, s, e, f))) (fun j => ?_) (Ev.now _)
  simp only [vouchref21_reader_one.j0, if_true]
  by_cases h : e = 0
  · subst h
    rw [fail_ok]
    rfl
  · rw [fail_er b s e f _ _ h]
    simp only [h, if_false]
    rfl

theorem one_j1_er (b : List Int) (s e f op x y : Int) (he : e ≠ 0) : ∃ t, Ev (fun j => vouchref21_reader_one.j1 j b s e f op x y) t ∧ ∃ o x y p : Int, t = (o, x, y, p, e, f) := by
  cases hh : hasB op
  · refine ⟨(op, x, y, s, e, f), Ev.step (f := fun _ => some (op, x, y, s, e, f)) (fun j => ?_) (Ev.now _), _, _, _, _, rfl⟩
    simp only [vouchref21_reader_one.j1, hasB_f, hh, Option.bind_some, Bool.false_eq_true, if_false]
  · refine ⟨(op, x, 0, s, e, f), ?_, _, _, _, _, rfl⟩
    have hs : ∀ j, vouchref21_reader_one.j1 (j + 1) b s e f op x y = (vouchref21_reader_number.f j b s e f).bind fun bt116 => (some (op, x, bt116.1, bt116.2.1, bt116.2.2.1, bt116.2.2.2)) := by
      intro j
      simp only [vouchref21_reader_one.j1, hasB_f, hh, Option.bind_some, if_true]
    exact Ev.step hs (Ev.bind (number_er b s e f he) (Ev.now _))
theorem one_j1_ok {b : List Int} {p : Nat} (ha : At b p) (op x : Int) : ∃ t, Ev (fun j => vouchref21_reader_one.j1 j b (p : Int) 0 0 op x 0) t ∧ OneIs ((if hasB op then num b 2147483647 p else .ok 0 p).bind fun y p => Out.ok (⟨op, x, (y : Int)⟩ : S41) p) t := by
  cases hh : hasB op
  · refine ⟨(op, x, 0, (p : Int), 0, 0), Ev.step (f := fun _ => some (op, x, 0, (p : Int), 0, 0)) (fun j => ?_) (Ev.now _), ?_⟩
    · simp only [vouchref21_reader_one.j1, hasB_f, hh, Option.bind_some, Bool.false_eq_true, if_false]
    · simp only [Bool.false_eq_true, if_false, Out.bind, OneIs]
      rfl
  · have hs : ∀ j, vouchref21_reader_one.j1 (j + 1) b (p : Int) 0 0 op x 0 = (vouchref21_reader_number.f j b (p : Int) 0 0).bind fun bt116 => (some (op, x, bt116.1, bt116.2.1, bt116.2.2.1, bt116.2.2.2)) := by
      intro j
      simp only [vouchref21_reader_one.j1, hasB_f, hh, Option.bind_some, if_true]
    obtain ⟨t, ht, hn⟩ := number_f ha
    simp only [if_true]
    cases hq : num b 2147483647 p with
    | er e f =>
      rw [hq] at hn
      obtain ⟨he, q, hq2, rfl⟩ := hn
      exact ⟨_, Ev.step hs (Ev.bind ht (Ev.now _)), he, _, _, _, _, rfl⟩
    | ok y q =>
      rw [hq] at hn
      obtain rfl : t = ((y : Int), (q : Int), 0, 0) := hn
      exact ⟨_, Ev.step hs (Ev.bind ht (Ev.now _)), rfl⟩

theorem one_j0_er (b : List Int) (s e f op x y at_ : Int) (he : e ≠ 0) : ∃ t, Ev (fun j => vouchref21_reader_one.j0 j at_ false b s e f op x y) t ∧ ∃ o x y p : Int, t = (o, x, y, p, e, f) := by
  cases hh : hasA op
  · obtain ⟨t, h1, h2⟩ := one_j1_er b s e f op x y he
    have hs : ∀ j, vouchref21_reader_one.j0 (j + 1) at_ false b s e f op x y = vouchref21_reader_one.j1 j b s e f op x y := by
      intro j
      simp only [vouchref21_reader_one.j0, hasA_f, hh, Option.bind_some, Bool.false_eq_true, if_false]
    exact ⟨t, Ev.step hs h1, h2⟩
  · obtain ⟨t, h1, h2⟩ := one_j1_er b s e f op 0 y he
    have hs : ∀ j, vouchref21_reader_one.j0 (j + 1) at_ false b s e f op x y = (vouchref21_reader_number.f j b s e f).bind fun bt111 => (vouchref21_reader_one.j1 j b bt111.2.1 bt111.2.2.1 bt111.2.2.2 op bt111.1 y) := by
      intro j
      simp only [vouchref21_reader_one.j0, hasA_f, hh, Option.bind_some, Bool.false_eq_true, if_false, if_true]
    exact ⟨t, Ev.step hs (Ev.bind (number_er b s e f he) h1), h2⟩
theorem one_j0_ok {b : List Int} {p : Nat} (ha : At b p) (op at_ : Int) : ∃ t, Ev (fun j => vouchref21_reader_one.j0 j at_ false b (p : Int) 0 0 op 0 0) t ∧
    OneIs ((if hasA op then num b 2147483647 p else .ok 0 p).bind fun x p => (if hasB op then num b 2147483647 p else .ok 0 p).bind fun y p => Out.ok (⟨op, (x : Int), (y : Int)⟩ : S41) p) t := by
  cases hh : hasA op
  · obtain ⟨t, h1, h2⟩ := one_j1_ok ha op 0
    have hs : ∀ j, vouchref21_reader_one.j0 (j + 1) at_ false b (p : Int) 0 0 op 0 0 = vouchref21_reader_one.j1 j b (p : Int) 0 0 op 0 0 := by
      intro j
      simp only [vouchref21_reader_one.j0, hasA_f, hh, Option.bind_some, Bool.false_eq_true, if_false]
    exact ⟨t, Ev.step hs h1, h2⟩
  · have hs : ∀ j, vouchref21_reader_one.j0 (j + 1) at_ false b (p : Int) 0 0 op 0 0 = (vouchref21_reader_number.f j b (p : Int) 0 0).bind fun bt111 => (vouchref21_reader_one.j1 j b bt111.2.1 bt111.2.2.1 bt111.2.2.2 op bt111.1 0) := by
      intro j
      simp only [vouchref21_reader_one.j0, hasA_f, hh, Option.bind_some, Bool.false_eq_true, if_false, if_true]
    obtain ⟨t, ht, hn⟩ := number_f ha
    simp only [if_true]
    cases hq : num b 2147483647 p with
    | er e f =>
      rw [hq] at hn
      obtain ⟨he, q, hq2, rfl⟩ := hn
      obtain ⟨t, h1, h2⟩ := one_j1_er b q e f op 0 0 he
      exact ⟨t, Ev.step hs (Ev.bind ht h1), he, h2⟩
    | ok y q =>
      rw [hq] at hn
      obtain rfl : t = ((y : Int), (q : Int), 0, 0) := hn
      obtain ⟨t, h1, h2⟩ := one_j1_ok (ha.mv (num_le ha hq)) op (y : Int)
      exact ⟨t, Ev.step hs (Ev.bind ht h1), h2⟩

theorem one_f {b : List Int} {pos : Nat} (ha : At b pos) : ∃ t, Ev (fun j => vouchref21_reader_one.f j b (pos : Int) 0 0) t ∧ OneIs (instr b pos) t := by
  have ho := octet_ok ha
  unfold instr oct vouchref21_reader_one.f
  rw [ho]
  cases hc : b[pos]? with
  | none =>
    simp only [Option.bind_some, Out.bind]
    have h1 : (0 : Int) < 1 := by decide
    simp only [h1, if_true]
    exact ⟨_, one_j0_t b pos 210 pos 0 0 0 pos, by decide, _, _, _, _, rfl⟩
  | some c =>
    simp only [Option.bind_some]
    by_cases hi : isOp c = true
    · have hd : 1 ≤ c ∧ c ≤ 38 := by simpa [isOp] using hi
      have h1 : ¬ c < 1 := by omega
      have h2 : decide (c > 38) = false := by rw [decide_eq_false_iff_not]; omega
      simp only [h1, if_false, h2, hi, if_true, Out.bind]
      have hl : pos < b.length := by
        obtain ⟨hl, _⟩ := List.getElem?_eq_some_iff.1 hc
        exact hl
      exact one_j0_ok (ha.mv (by omega)) c (pos : Int)
    · have hi' : isOp c = false := by simpa using hi
      simp only [hi', Bool.false_eq_true, if_false, Out.bind]
      by_cases h1 : c < 1
      · simp only [h1, if_true]
        exact ⟨_, one_j0_t b ((pos + 1 : Nat) : Int) 0 0 c 0 0 pos, by decide, _, _, _, _, rfl⟩
      · have h2 : decide (c > 38) = true := by
          rw [decide_eq_true_iff]
          have : ¬ (1 ≤ c ∧ c ≤ 38) := fun h => hi (by simpa [isOp] using h)
          omega
        simp only [h1, if_false, h2]
        exact ⟨_, one_j0_t b ((pos + 1 : Nat) : Int) 0 0 c 0 0 pos, by decide, _, _, _, _, rfl⟩

theorem rj5_fin {b : List Int} {p : Nat} (ha : At b p) (kd st : Int) (ts : List ByteArray) (xs : List S41) : Ev (fun j => vouchref21_Decode.j5 j b b (p : Int) 0 0 kd ts xs st) (ans (fin b kd st ts xs p)) := by
  refine Ev.step (f := fun _ => some (ans (fin b kd st ts xs p))) (fun j => ?_) (Ev.now _)
  unfold fin
  by_cases h : p < b.length
  · have h' : (p : Int) < (b.length : Int) := by omega
    simp [vouchref21_Decode.j5, h', h, fail_ok, ans]
  · have h' : ¬ (p : Int) < (b.length : Int) := by omega
    simp [vouchref21_Decode.j5, h', h, ans]
theorem rj5_er (b : List Int) (s e f kd st : Int) (ts : List ByteArray) (xs : List S41) (he : e ≠ 0) : Ev (fun j => vouchref21_Decode.j5 j b b s e f kd ts xs st) (0, [], [], 0, f, e) := by
  refine Ev.step (f := fun _ => some (0, [], [], 0, f, e)) (fun j => ?_) (Ev.now _)
  by_cases h : s < (b.length : Int)
  · simp [vouchref21_Decode.j5, h, fail_er b s e f _ _ he, he]
  · simp [vouchref21_Decode.j5, h, he]
theorem rl1_er (b : List Int) (m i s e f kd st : Int) (ts : List ByteArray) (xs : List S41) (he : e ≠ 0) : Ev (fun j => vouchref21_Decode.l1 j b m i b s e f kd ts xs st) (0, [], [], 0, f, e) := by
  refine Ev.step (fun j => ?_) (rj5_er b s e f kd st ts xs he)
  by_cases h : i < m
  · simp only [vouchref21_Decode.l1, h, if_true, he, if_false]
  · simp only [vouchref21_Decode.l1, h, if_false]
theorem rl1_ok (b : List Int) (kd st : Int) (ts : List ByteArray) (m : Nat) (hm : m ≤ 32768) (n : Nat) : ∀ (i p : Nat) (xs : List S41), At b p → i + n = m → xs.length + n ≤ 5864062014800 →
    Ev (fun j => vouchref21_Decode.l1 j b (m : Int) (i : Int) b (p : Int) 0 0 kd ts xs st) (ans ((many (instr b) n p).bind fun ys q => fin b kd st ts (xs ++ ys) q)) := by
  induction n with
  | zero =>
    intro i p xs ha hi _
    refine Ev.step (fun j => ?_) (by simpa [many, Out.bind] using rj5_fin ha kd st ts xs)
    have : ¬ (i : Int) < (m : Int) := by omega
    simp only [vouchref21_Decode.l1, this, if_false]
  | succ n ih =>
    intro i p xs ha hi hxs
    have hl : xs.length < 5864062014805 := by omega
    have w1 : wrap64 ((i : Int) + 1) = ((i + 1 : Nat) : Int) := by unfold wrap64; omega
    have hlt : (i : Int) < (m : Int) := by omega
    have hs : ∀ j, vouchref21_Decode.l1 (j + 1) b (m : Int) (i : Int) b (p : Int) 0 0 kd ts xs st = (vouchref21_reader_one.f j b (p : Int) 0 0).bind fun bt136 => (if xs.length < 5864062014805 then (vouchref21_Decode.l1 j b (m : Int) ((i + 1 : Nat) : Int) b bt136.2.2.2.1 bt136.2.2.2.2.1 bt136.2.2.2.2.2 kd ts (xs ++ [(⟨bt136.1, bt136.2.1, bt136.2.2.1⟩ : S41)]) st) else (none)) := by
      intro j
      simp only [vouchref21_Decode.l1, hlt, if_true, w1]
    obtain ⟨t, ht, hn⟩ := one_f ha
    refine Ev.step hs (Ev.bind ht ?_)
    simp only [hl, if_true, many]
    cases hq : instr b p with
    | er e f =>
      rw [hq] at hn
      obtain ⟨he, o, x, y, q, rfl⟩ := hn
      exact rl1_er b _ _ _ e _ kd st ts _ he
    | ok s q =>
      rw [hq] at hn
      obtain rfl : t = (s.1, s.2, s.3, (q : Int), 0, 0) := hn
      have := ih (i + 1) q (xs ++ [s]) (ha.mv (instr_le ha hq)) (by omega) (by simp; omega)
      simp only [Out.bind] at this ⊢
      cases hm : many (instr b) n q with
      | er e f => rw [hm] at this; exact this
      | ok us r =>
        rw [hm] at this
        simpa [List.append_assoc] using this

theorem rj3_ok {b : List Int} {p : Nat} (ha : At b p) (kd st : Int) (ts : List ByteArray) : Ev (fun j => vouchref21_Decode.j3 j b b (p : Int) 0 0 kd ts st) (ans (rest b kd st ts p)) := by
  obtain ⟨t, ht, hn⟩ := count_f ha 32768 2147483647 rfl (by omega)
  have hs : ∀ j, vouchref21_Decode.j3 (j + 1) b b (p : Int) 0 0 kd ts st = (vouchref21_reader_count.f j b (p : Int) 0 0 32768).bind fun bt132 => (vouchref21_Decode.l1 j b bt132.1 0 b bt132.2.1 bt132.2.2.1 bt132.2.2.2 kd ts ([] : List (S41)) st) := by
    intro j
    simp only [vouchref21_Decode.j3]
  refine Ev.step hs (Ev.bind ht ?_)
  unfold rest
  cases hq : num b 32768 p with
  | er e f =>
    rw [hq] at hn
    obtain ⟨he, q, hq2, rfl⟩ := hn
    exact rl1_er b _ _ _ e _ kd st ts _ he
  | ok m q =>
    rw [hq] at hn
    obtain rfl : t = ((m : Int), (q : Int), 0, 0) := hn
    have hm := (num_ok ha.bytes hq).2.2.2.2.1
    have := rl1_ok b kd st ts m hm m 0 q [] (ha.mv (num_le ha hq)) (by omega) (by simp; omega)
    simpa [Out.bind] using this
theorem rj3_er (b : List Int) (s e f kd st : Int) (ts : List ByteArray) (he : e ≠ 0) : Ev (fun j => vouchref21_Decode.j3 j b b s e f kd ts st) (0, [], [], 0, f, e) := by
  have hs : ∀ j, vouchref21_Decode.j3 (j + 1) b b s e f kd ts st = (vouchref21_reader_count.f j b s e f 32768).bind fun bt132 => (vouchref21_Decode.l1 j b bt132.1 0 b bt132.2.1 bt132.2.2.1 bt132.2.2.2 kd ts ([] : List (S41)) st) := by
    intro j
    simp only [vouchref21_Decode.j3]
  refine Ev.step hs (Ev.bind (count_er b s e f 32768 (by decide) he) ?_)
  exact rl1_er b _ _ _ e _ kd st ts _ he
theorem rl0_er (b : List Int) (n i s e f kd st : Int) (ts : List ByteArray) (he : e ≠ 0) : Ev (fun j => vouchref21_Decode.l0 j b n i b s e f kd ts st) (0, [], [], 0, f, e) := by
  refine Ev.step (fun j => ?_) (rj3_er b s e f kd st ts he)
  by_cases h : i < n
  · simp only [vouchref21_Decode.l0, h, if_true, he, if_false]
  · simp only [vouchref21_Decode.l0, h, if_false]
theorem rl0_ok (b : List Int) (kd st : Int) (m : Nat) (hm : m ≤ 8192) (n : Nat) : ∀ (i p : Nat) (ts : List ByteArray), At b p → i + n = m → ts.length + n ≤ 8796093022200 →
    Ev (fun j => vouchref21_Decode.l0 j b (m : Int) (i : Int) b (p : Int) 0 0 kd ts st) (ans ((many (text b) n p).bind fun us q => rest b kd st (ts ++ us) q)) := by
  induction n with
  | zero =>
    intro i p ts ha hi _
    refine Ev.step (fun j => ?_) (by simpa [many, Out.bind] using rj3_ok ha kd st ts)
    have : ¬ (i : Int) < (m : Int) := by omega
    simp only [vouchref21_Decode.l0, this, if_false]
  | succ n ih =>
    intro i p ts ha hi hts
    have hl : ts.length < 8796093022208 := by omega
    have w1 : wrap64 ((i : Int) + 1) = ((i + 1 : Nat) : Int) := by unfold wrap64; omega
    have hlt : (i : Int) < (m : Int) := by omega
    obtain ⟨t, ht, hn⟩ := rtext_f ha
    have hs : ∀ j, vouchref21_Decode.l0 (j + 1) b (m : Int) (i : Int) b (p : Int) 0 0 kd ts st = (vouchref21_reader_text.f j b (p : Int) 0 0).bind fun bt125 => (if ts.length < 8796093022208 then (vouchref21_Decode.l0 j b (m : Int) ((i + 1 : Nat) : Int) b bt125.2.1 bt125.2.2.1 bt125.2.2.2 kd (ts ++ [bt125.1]) st) else (none)) := by
      intro j
      simp only [vouchref21_Decode.l0, hlt, if_true, w1]
    refine Ev.step hs (Ev.bind ht ?_)
    simp only [hl, if_true, many]
    cases hq : text b p with
    | er e f =>
      rw [hq] at hn
      obtain ⟨he, q, hq2, rfl⟩ := hn
      exact rl0_er b _ _ _ e _ kd st _ he
    | ok s q =>
      rw [hq] at hn
      obtain rfl : t = (s, (q : Int), 0, 0) := hn
      have := ih (i + 1) q (ts ++ [s]) (ha.mv (text_le ha hq)) (by omega) (by simp; omega)
      simp only [Out.bind] at this ⊢
      cases hm : many (text b) n q with
      | er e f => rw [hm] at this; exact this
      | ok us r =>
        rw [hm] at this
        simpa [List.append_assoc] using this

theorem rj1_er (b : List Int) (s e f kd st : Int) (he : e ≠ 0) : Ev (fun j => vouchref21_Decode.j1 j b b s e f kd st) (0, [], [], 0, f, e) := by
  have hs : ∀ j, vouchref21_Decode.j1 (j + 1) b b s e f kd st = (vouchref21_reader_number.f j b s e f).bind fun bt117 => ((vouchref21_reader_count.f j b bt117.2.1 bt117.2.2.1 bt117.2.2.2 8192).bind fun bt121 => (vouchref21_Decode.l0 j b bt121.1 0 b bt121.2.1 bt121.2.2.1 bt121.2.2.2 kd ([] : List ByteArray) bt117.1)) := by
    intro j
    simp only [vouchref21_Decode.j1]
  refine Ev.step hs (Ev.bind (number_er b s e f he) (Ev.bind (count_er b s e f 8192 (by decide) he) ?_))
  exact rl0_er b _ _ _ e _ _ _ _ he
theorem rj1_ok {b : List Int} {p : Nat} (ha : At b p) (kd st0 : Int) : Ev (fun j => vouchref21_Decode.j1 j b b (p : Int) 0 0 kd st0) (ans ((num b 2147483647 p).bind fun st p => (num b 8192 p).bind fun n p => (many (text b) n p).bind fun ts p => rest b kd st ts p)) := by
  have hs : ∀ j, vouchref21_Decode.j1 (j + 1) b b (p : Int) 0 0 kd st0 = (vouchref21_reader_number.f j b (p : Int) 0 0).bind fun bt117 => ((vouchref21_reader_count.f j b bt117.2.1 bt117.2.2.1 bt117.2.2.2 8192).bind fun bt121 => (vouchref21_Decode.l0 j b bt121.1 0 b bt121.2.1 bt121.2.2.1 bt121.2.2.2 kd ([] : List ByteArray) bt117.1)) := by
    intro j
    simp only [vouchref21_Decode.j1]
  obtain ⟨t, ht, hn⟩ := number_f ha
  refine Ev.step hs (Ev.bind ht ?_)
  cases h4 : num b 2147483647 p with
  | er e f =>
    rw [h4] at hn
    obtain ⟨he, q, hq2, rfl⟩ := hn
    refine Ev.bind (count_er b _ e _ 8192 (by decide) he) ?_
    exact rl0_er b _ _ _ e _ _ _ _ he
  | ok st p4 =>
    rw [h4] at hn
    obtain rfl : t = ((st : Int), (p4 : Int), 0, 0) := hn
    have ha4 := ha.mv (num_le ha h4)
    obtain ⟨t, ht, hn⟩ := count_f ha4 8192 2147483647 rfl (by omega)
    refine Ev.bind ht ?_
    simp only [Out.bind]
    cases h5 : num b 8192 p4 with
    | er e f =>
      rw [h5] at hn
      obtain ⟨he, q, hq2, rfl⟩ := hn
      exact rl0_er b _ _ _ e _ _ _ _ he
    | ok n p5 =>
      rw [h5] at hn
      obtain rfl : t = ((n : Int), (p5 : Int), 0, 0) := hn
      have ha5 := ha4.mv (num_le ha4 h5)
      have hnb := (num_ok ha4.bytes h5).2.2.2.2.1
      have := rl0_ok b kd st n hnb n 0 p5 [] ha5 (by omega) (by simp; omega)
      simp only [List.nil_append] at this
      exact this

theorem rj0_f {b : List Int} {s e f kd st at_ : Int} {t} (h : Ev (fun j => vouchref21_Decode.j1 j b b s e f kd st) t) : Ev (fun j => vouchref21_Decode.j0 j b at_ false b s e f kd st) t := by
  refine Ev.step (fun j => ?_) h
  simp only [vouchref21_Decode.j0, Bool.false_eq_true, if_false]
theorem rj0_er (b : List Int) (s e f kd st at_ : Int) (x : Bool) (he : e ≠ 0) : Ev (fun j => vouchref21_Decode.j0 j b at_ x b s e f kd st) (0, [], [], 0, f, e) := by
  cases x
  · exact rj0_f (rj1_er b s e f kd st he)
  · refine Ev.step (fun j => ?_) (rj1_er b s e f kd st he)
    simp only [vouchref21_Decode.j0, if_true, fail_er b s e f _ _ he, Option.bind_some]
theorem rj0_t (b : List Int) (s f kd st at_ : Int) : Ev (fun j => vouchref21_Decode.j0 j b at_ true b s 0 f kd st) (0, [], [], 0, at_, 210) := by
  refine Ev.step (fun j => ?_) (rj1_er b s 210 at_ kd st (by decide))
  simp only [vouchref21_Decode.j0, if_true, fail_ok, Option.bind_some]

/-- Behind the two letters. -/
def rfin (b : List Int) (s e f at_ : Int) (k : Nat) : Option Tup := (vouchref21_reader_octet.f b s e f).bind fun bt109 => (if bt109.1 = 1 then (vouchref21_Decode.j0 k b at_ false b bt109.2.1 bt109.2.2.1 bt109.2.2.2 bt109.1 0) else (vouchref21_Decode.j0 k b at_ (bt109.1 != 2) b bt109.2.1 bt109.2.2.1 bt109.2.2.2 bt109.1 0))
theorem rfin_er (b : List Int) (s e f at_ : Int) (he : e ≠ 0) : Ev (fun j => rfin b s e f at_ j) (0, [], [], 0, f, e) := by
  unfold rfin
  rw [octet_er b s e f he]
  simp only [Option.bind_some]
  have : ¬ (0 : Int) = 1 := by decide
  simp only [this, if_false]
  exact rj0_er b s e f 0 0 at_ _ he
theorem rfin_ok {b : List Int} {p : Nat} (ha : At b p) : Ev (fun j => rfin b (p : Int) 0 0 (p : Int) j) (ans ((oct b isKind p).bind fun kd p => (num b 2147483647 p).bind fun st p => (num b 8192 p).bind fun n p => (many (text b) n p).bind fun ts p => rest b kd st ts p)) := by
  have ho := octet_ok ha
  unfold rfin oct
  rw [ho]
  cases hc : b[p]? with
  | none =>
    simp only [Option.bind_some, Out.bind, ans]
    have : ¬ (0 : Int) = 1 := by decide
    simp only [this, if_false]
    exact rj0_er b _ 210 _ 0 0 _ _ (by decide)
  | some c =>
    have hl : p < b.length := by
      obtain ⟨hl, _⟩ := List.getElem?_eq_some_iff.1 hc
      exact hl
    have ha1 : At b (p + 1) := ha.mv (by omega)
    simp only [Option.bind_some]
    by_cases h1 : c = 1
    · have hk : isKind c = true := by subst h1; rfl
      simp only [hk, h1, if_true, Out.bind]
      exact rj0_f (rj1_ok ha1 1 0)
    · by_cases h2 : c = 2
      · have hk : isKind c = true := by subst h2; rfl
        simp only [hk, h1, if_true, if_false, Out.bind]
        have : (c != 2) = false := by rw [h2]; rfl
        rw [this]
        exact rj0_f (rj1_ok ha1 c 0)
      · have hk : isKind c = false := by
          simp only [isKind, Bool.or_eq_false_iff, beq_eq_false_iff_ne]
          exact ⟨h1, h2⟩
        simp only [hk, h1, Bool.false_eq_true, if_false, Out.bind, ans]
        have : (c != 2) = true := by simpa using h2
        rw [this]
        exact rj0_t b _ _ _ _ _

theorem refdecode_f (b : List Int) (hb : ∀ c ∈ b, 0 ≤ c ∧ c ≤ 255) : Ev (fun j => vouchref21_Decode.f j b) (CodeF.decode b) := by
  have hd : dec b = (oct b (· == 86) 0).bind fun _ p => (oct b (· == 80) p).bind fun _ p => (oct b isKind p).bind fun kd p => (num b 2147483647 p).bind fun st p => (num b 8192 p).bind fun n p => (many (text b) n p).bind fun ts p => rest b kd st ts p := by
    unfold dec dec0 rest fin
    cases oct b (· == 86) 0 with
    | er e f => rfl
    | ok c p =>
    simp only [Out.bind]
    cases oct b (· == 80) p with
    | er e f => rfl
    | ok c p =>
    simp only [Out.bind]
    cases oct b isKind p with
    | er e f => rfl
    | ok c p =>
    simp only [Out.bind]
    cases num b 2147483647 p with
    | er e f => rfl
    | ok c p =>
    simp only [Out.bind]
    cases num b 8192 p with
    | er e f => rfl
    | ok c p =>
    simp only [Out.bind]
    cases many (text b) c p with
    | er e f => rfl
    | ok c p =>
    simp only [Out.bind]
    cases num b 32768 p with
    | er e f => rfl
    | ok c p =>
    simp only [Out.bind]
    cases many (instr b) c p with
    | er e f => rfl
    | ok c p => rfl
  unfold vouchref21_Decode.f CodeF.decode
  by_cases h : b.length > 1048576
  · have h' : (b.length : Int) > 1048576 := by omega
    simp only [h, h', if_true]
    exact Ev.now _
  have h' : ¬ (b.length : Int) > 1048576 := by omega
  simp only [h, h', if_false]
  rw [hd]
  have ha : At b 0 := ⟨by omega, by omega, hb⟩
  have hfold : ∀ (t : Int × Int × Int) (k : Nat), ((vouchref21_reader_octet.f b t.1 t.2.1 t.2.2).bind fun bt109 => (if bt109.1 = 1 then (vouchref21_Decode.j0 k b t.1 false b bt109.2.1 bt109.2.2.1 bt109.2.2.2 bt109.1 0) else (vouchref21_Decode.j0 k b t.1 (bt109.1 != 2) b bt109.2.1 bt109.2.2.1 bt109.2.2.2 bt109.1 0))) = rfin b t.1 t.2.1 t.2.2 t.1 k := fun _ _ => rfl
  simp only [hfold]
  obtain ⟨t, ht, hn⟩ := must_f ha 86 (by decide)
  have ht' : vouchref21_reader_must.f b 0 0 0 86 = some t := ht
  rw [ht']
  simp only [Option.bind_some]
  cases h1 : oct b (· == 86) 0 with
  | er e f =>
    rw [h1] at hn
    obtain ⟨he, p, rfl⟩ := hn
    simp only [must_er b _ e _ 80 he (by decide), Option.bind_some, Out.bind, ans]
    exact rfin_er b _ e _ _ he
  | ok c1 p1 =>
  rw [h1] at hn
  obtain rfl : t = ((p1 : Int), 0, 0) := hn
  have ha1 := ha.mv (oct_le h1)
  obtain ⟨t, ht, hn⟩ := must_f ha1 80 (by decide)
  simp only [ht, Option.bind_some, Out.bind]
  cases h2 : oct b (· == 80) p1 with
  | er e f =>
    rw [h2] at hn
    obtain ⟨he, p, rfl⟩ := hn
    simp only [ans]
    exact rfin_er b _ e _ _ he
  | ok c2 p2 =>
  rw [h2] at hn
  obtain rfl : t = ((p2 : Int), 0, 0) := hn
  exact rfin_ok (ha1.mv (oct_le h2))
end Go.Proofs.Ytmhmappdohddeaa.CodeJ
