/- What the program's code.Decode answers, plainly: just what is read (CodeD), or the first error and its place. -/
import Derived.Test.YtmhmappdohddeaaCodeE
import Derived.Test.YtmhmappdohddeaaHcodeDecode
namespace Go.Proofs.Ytmhmappdohddeaa.CodeF
open Go.RowKit Go.Proofs.YtmhmappdohddeaaW.PrintWords Go.Proofs.Ytmhmappdohddeaa.H Go.Proofs.Ytmhmappdohddeaa.CodeA Go.Proofs.Ytmhmappdohddeaa.CodeB Go.Proofs.Ytmhmappdohddeaa.CodeC Go.Proofs.Ytmhmappdohddeaa.CodeD Go.Proofs.Ytmhmappdohddeaa.CodeE
set_option linter.unusedVariables false
set_option linter.unusedSimpArgs false

abbrev Tup := Int × List ByteArray × (List (S41)) × Int × Int × Int
/-- The answer of a reading. -/
def ans : Out Prog → Tup
  | .ok p _ => (p.kd, p.ts, p.xs, p.st, 0, 0)
  | .er e f => (0, [], [], 0, (f : Int), e)

def fin (b : List Int) (kd st : Int) (ts : List ByteArray) (xs : List S41) (p : Nat) : Out Prog := if p < b.length then .er 210 p else .ok ⟨kd, ts, xs, st⟩ p

theorem j3_fin {b : List Int} {p : Nat} (ha : At b p) (x9 kd st : Int) (ts : List ByteArray) (xs : List S41) : Ev (fun j => code_Decode.j3 j b x9 false b (p : Int) 0 0 kd ts xs st) (ans (fin b kd st ts xs p)) := by
  refine Ev.step (f := fun _ => some (ans (fin b kd st ts xs p))) (fun j => ?_) (Ev.now _)
  unfold fin
  by_cases h : p < b.length
  · have h' : (p : Int) < (b.length : Int) := by omega
    simp [code_Decode.j3, h', h, code_source_fail.f, ans]
  · have h' : ¬ (p : Int) < (b.length : Int) := by omega
    simp [code_Decode.j3, h', h, ans]
theorem j3_er (b : List Int) (x9 s e f kd st : Int) (ts : List ByteArray) (xs : List S41) (he : e ≠ 0) : Ev (fun j => code_Decode.j3 j b x9 false b s e f kd ts xs st) (0, [], [], 0, f, e) := by
  refine Ev.step (f := fun _ => some (0, [], [], 0, f, e)) (fun j => ?_) (Ev.now _)
  by_cases h : s < (b.length : Int)
  · simp [code_Decode.j3, h, code_source_fail.f, he]
  · simp [code_Decode.j3, h, he]
theorem l1_er (b : List Int) (x9 s e f kd st : Int) (ts : List ByteArray) (xs : List S41) (he : e ≠ 0) : Ev (fun j => code_Decode.l1 j b x9 b s e f kd ts xs st) (0, [], [], 0, f, e) := by
  refine Ev.step (fun j => ?_) (j3_er b x9 s e f kd st ts xs he)
  have hb : (e == 0) = false := by rw [beq_eq_false_iff_ne]; exact he
  by_cases h : x9 > 0
  · simp only [code_Decode.l1, h, if_true, hb]
  · simp only [code_Decode.l1, h, if_false]
theorem j4_er (b : List Int) (x9 s e f kd st op x y : Int) (ts : List ByteArray) (xs : List S41) (he : e ≠ 0) (hl : xs.length < 5864062014805) : Ev (fun j => code_Decode.j4 j b x9 b s e f kd ts xs st op x y) (0, [], [], 0, f, e) := by
  have hstep : ∀ j, code_Decode.j4 (j + 1) b x9 b s e f kd ts xs st op x y = (code_of.f j op).bind fun t145 => (if (Go.bits .and .u8 t145 2) = 0 then (if xs.length < 5864062014805 then (code_Decode.l1 j b (wrap64 (x9 - 1)) b s e f kd ts (xs ++ [(⟨op, x, y⟩ : S41)]) st) else (none)) else ((code_source_number.f j b s e f 2147483647).bind fun bt149 => (if xs.length < 5864062014805 then (code_Decode.l1 j b (wrap64 (x9 - 1)) b bt149.2.1 bt149.2.2.1 bt149.2.2.2 kd ts (xs ++ [(⟨op, x, bt149.1⟩ : S41)]) st) else (none)))) := by
    intro j
    simp only [code_Decode.j4]
  refine Ev.step hstep (Ev.bind (of_f op) ?_)
  cases hh : hasB op
  · simp only [(ofS_and2 op).2 hh, if_true, hl]
    exact l1_er b _ s e f kd st ts _ he
  · have h3 : ¬ Go.bits .and .u8 (ofS op) 2 = 0 := fun e => by have := (ofS_and2 op).1 e; rw [hh] at this; cases this
    simp only [h3, if_false]
    refine Ev.bind (num_f_er b s e f 2147483647 he) ?_
    simp only [hl, if_true]
    exact l1_er b _ s e f kd st ts _ he

/-- The instructions. -/
theorem l1_ok (b : List Int) (kd st : Int) (ts : List ByteArray) (m : Nat) : ∀ (p : Nat) (xs : List S41), At b p → xs.length + m ≤ 5864062014800 →
    Ev (fun j => code_Decode.l1 j b (m : Int) b (p : Int) 0 0 kd ts xs st) (ans ((many (instr b) m p).bind fun ys q => fin b kd st ts (xs ++ ys) q)) := by
  induction m with
  | zero =>
    intro p xs ha _
    refine Ev.step (fun j => ?_) (by simpa [many, Out.bind] using j3_fin ha 0 kd st ts xs)
    simp [code_Decode.l1]
  | succ m ih =>
    intro p xs ha hxs
    have hl : xs.length < 5864062014805 := by omega
    have w1 : wrap64 (((m + 1 : Nat) : Int) - 1) = (m : Int) := by unfold wrap64; omega
    have ho := octG_ok code_Decode_3.f isOp isOp_f ha
    rw [← octO_eq] at ho
    have hs1 : ∀ j, code_Decode.l1 (j + 1) b ((m + 1 : Nat) : Int) b (p : Int) 0 0 kd ts xs st = code_Decode.j3 j b ((m + 1 : Nat) : Int) true b (p : Int) 0 0 kd ts xs st := by
      intro j
      have : ((m + 1 : Nat) : Int) > 0 := by omega
      simp only [code_Decode.l1, this, if_true]
      rfl
    refine Ev.step hs1 ?_
    have hs2 : ∀ j, code_Decode.j3 (j + 1) b ((m + 1 : Nat) : Int) true b (p : Int) 0 0 kd ts xs st = ((octetO.f b (p : Int) 0 0).bind fun bt135 => ((code_of.f j bt135.1).bind fun t140 => (if (Go.bits .and .u8 t140 1) = 0 then (code_Decode.j4 j b ((m + 1 : Nat) : Int) b bt135.2.1 bt135.2.2.1 bt135.2.2.2 kd ts xs st bt135.1 0 0) else ((code_source_number.f j b bt135.2.1 bt135.2.2.1 bt135.2.2.2 2147483647).bind fun bt141 => (code_Decode.j4 j b ((m + 1 : Nat) : Int) b bt141.2.1 bt141.2.2.1 bt141.2.2.2 kd ts xs st bt135.1 bt141.1 0))))) := by
      intro j
      simp only [code_Decode.j3, if_true]
    refine Ev.step hs2 ?_
    rw [ho]
    simp only [many, instr]
    cases h1 : oct b isOp p with
    | er e f =>
      have he : e = 210 := by
        unfold oct at h1
        split at h1
        · split at h1
          · cases h1
          · injection h1 with h1; exact h1.symm
        · injection h1 with h1; exact h1.symm
      subst he
      simp only [Option.bind_some, Out.bind, ans]
      refine Ev.bind (of_f 0) ?_
      have : Go.bits .and .u8 (ofS 0) 1 = 0 := by decide
      simp only [this, if_true]
      exact j4_er b _ _ 210 _ kd st 0 0 0 ts xs (by decide) hl
    | ok op p1 =>
      have ha1 : At b p1 := ha.mv (oct_le h1)
      simp only [Option.bind_some, Out.bind]
      refine Ev.bind (of_f op) ?_
      -- the second number, and on
      have hB : ∀ (p2 : Nat) (x : Nat), At b p2 → Ev (fun j => code_Decode.j4 j b ((m + 1 : Nat) : Int) b (p2 : Int) 0 0 kd ts xs st op (x : Int) 0)
          (ans ((((if hasB op then num b 2147483647 p2 else .ok 0 p2).bind fun y p => Out.ok (⟨op, (x : Int), (y : Int)⟩ : S41) p).bind fun a p => (many (instr b) m p).bind fun l q => .ok (a :: l) q).bind fun ys q => fin b kd st ts (xs ++ ys) q)) := by
        intro p2 x ha2
        have hs3 : ∀ j, code_Decode.j4 (j + 1) b ((m + 1 : Nat) : Int) b (p2 : Int) 0 0 kd ts xs st op (x : Int) 0 = (code_of.f j op).bind fun t145 => (if (Go.bits .and .u8 t145 2) = 0 then (if xs.length < 5864062014805 then (code_Decode.l1 j b (m : Int) b (p2 : Int) 0 0 kd ts (xs ++ [(⟨op, (x : Int), 0⟩ : S41)]) st) else (none)) else ((code_source_number.f j b (p2 : Int) 0 0 2147483647).bind fun bt149 => (if xs.length < 5864062014805 then (code_Decode.l1 j b (m : Int) b bt149.2.1 bt149.2.2.1 bt149.2.2.2 kd ts (xs ++ [(⟨op, (x : Int), bt149.1⟩ : S41)]) st) else (none)))) := by
          intro j
          simp only [code_Decode.j4, w1]
        have hgo : ∀ (p3 : Nat) (y : Nat), At b p3 → Ev (fun j => code_Decode.l1 j b (m : Int) b (p3 : Int) 0 0 kd ts (xs ++ [(⟨op, (x : Int), (y : Int)⟩ : S41)]) st)
            (ans (((many (instr b) m p3).bind fun l q => Out.ok ((⟨op, (x : Int), (y : Int)⟩ : S41) :: l) q).bind fun ys q => fin b kd st ts (xs ++ ys) q)) := by
          intro p3 y ha3
          have := ih p3 (xs ++ [(⟨op, (x : Int), (y : Int)⟩ : S41)]) ha3 (by simp; omega)
          cases hm : many (instr b) m p3 with
          | er e f => rw [hm] at this; exact this
          | ok l q =>
            rw [hm] at this
            simp only [Out.bind, List.append_assoc, List.singleton_append] at this ⊢
            exact this
        refine Ev.step hs3 (Ev.bind (of_f op) ?_)
        cases hh : hasB op
        · simp only [(ofS_and2 op).2 hh, if_true, hl, Bool.false_eq_true, if_false, Out.bind]
          exact hgo p2 0 ha2
        · have h3 : ¬ Go.bits .and .u8 (ofS op) 2 = 0 := fun e => by have := (ofS_and2 op).1 e; rw [hh] at this; cases this
          simp only [h3, if_false, if_true]
          obtain ⟨t, ht, hn⟩ := num_f ha2 2147483647 (by omega)
          cases hq : num b 2147483647 p2 with
          | er e f =>
            rw [hq] at hn
            obtain ⟨he, q, hq2, rfl⟩ := hn
            refine Ev.bind ht ?_
            simp only [hl, if_true, Out.bind, ans]
            exact l1_er b _ _ e _ kd st ts _ he
          | ok y q =>
            rw [hq] at hn
            obtain rfl : t = ((y : Int), (q : Int), 0, 0) := hn
            refine Ev.bind ht ?_
            simp only [hl, if_true, Out.bind]
            exact hgo q y (ha2.mv (num_le ha2 hq))
      cases hh : hasA op
      · simp only [(ofS_and1 op).2 hh, if_true, Bool.false_eq_true, if_false, Out.bind]
        have := hB p1 0 ha1
        exact this
      · have h3 : ¬ Go.bits .and .u8 (ofS op) 1 = 0 := fun e => by have := (ofS_and1 op).1 e; rw [hh] at this; cases this
        simp only [h3, if_false, if_true]
        obtain ⟨t, ht, hn⟩ := num_f ha1 2147483647 (by omega)
        cases hq : num b 2147483647 p1 with
        | er e f =>
          rw [hq] at hn
          obtain ⟨he, q, hq2, rfl⟩ := hn
          refine Ev.bind ht ?_
          simp only [Out.bind, ans]
          exact j4_er b _ _ e _ kd st op 0 0 ts xs he hl
        | ok x q =>
          rw [hq] at hn
          obtain rfl : t = ((x : Int), (q : Int), 0, 0) := hn
          refine Ev.bind ht ?_
          simp only [Out.bind]
          exact hB q x (ha1.mv (num_le ha1 hq))

/-- Behind the texts. -/
def rest (b : List Int) (kd st : Int) (ts : List ByteArray) (p : Nat) : Out Prog := (num b 32768 p).bind fun m q => (many (instr b) m q).bind fun xs r => fin b kd st ts xs r
theorem j1_ok {b : List Int} {p : Nat} (ha : At b p) (kd st : Int) (ts : List ByteArray) : Ev (fun j => code_Decode.j1 j b b (p : Int) 0 0 kd ts st) (ans (rest b kd st ts p)) := by
  obtain ⟨t, ht, hn⟩ := num_f ha 32768 (by omega)
  have hs : ∀ j, code_Decode.j1 (j + 1) b b (p : Int) 0 0 kd ts st = (code_source_number.f j b (p : Int) 0 0 32768).bind fun bt131 => (code_Decode.l1 j b bt131.1 b bt131.2.1 bt131.2.2.1 bt131.2.2.2 kd ts ([] : List (S41)) st) := by
    intro j
    simp only [code_Decode.j1]
  refine Ev.step hs (Ev.bind ht ?_)
  unfold rest
  cases hq : num b 32768 p with
  | er e f =>
    rw [hq] at hn
    obtain ⟨he, q, hq2, rfl⟩ := hn
    exact l1_er b _ _ e _ kd st ts _ he
  | ok m q =>
    rw [hq] at hn
    obtain rfl : t = ((m : Int), (q : Int), 0, 0) := hn
    have hm := (num_ok ha.bytes hq).2.2.2.1
    have := l1_ok b kd st ts m q [] (ha.mv (num_le ha hq)) (by simp; omega)
    simpa [Out.bind] using this
theorem j1_er (b : List Int) (s e f kd st : Int) (ts : List ByteArray) (he : e ≠ 0) : Ev (fun j => code_Decode.j1 j b b s e f kd ts st) (0, [], [], 0, f, e) := by
  have hs : ∀ j, code_Decode.j1 (j + 1) b b s e f kd ts st = (code_source_number.f j b s e f 32768).bind fun bt131 => (code_Decode.l1 j b bt131.1 b bt131.2.1 bt131.2.2.1 bt131.2.2.2 kd ts ([] : List (S41)) st) := by
    intro j
    simp only [code_Decode.j1]
  refine Ev.step hs (Ev.bind (num_f_er b s e f 32768 he) ?_)
  exact l1_er b _ _ e _ kd st ts _ he
theorem l0_er (b : List Int) (x8 s e f kd st : Int) (ts : List ByteArray) (he : e ≠ 0) : Ev (fun j => code_Decode.l0 j b x8 b s e f kd ts st) (0, [], [], 0, f, e) := by
  refine Ev.step (fun j => ?_) (j1_er b s e f kd st ts he)
  by_cases h : x8 > 0
  · simp only [code_Decode.l0, h, if_true, he, if_false]
  · simp only [code_Decode.l0, h, if_false]

/-- The texts. -/
theorem l0_ok (b : List Int) (kd st : Int) (n : Nat) : ∀ (p : Nat) (ts : List ByteArray), At b p → ts.length + n ≤ 8796093022200 →
    Ev (fun j => code_Decode.l0 j b (n : Int) b (p : Int) 0 0 kd ts st) (ans ((many (text b) n p).bind fun us q => rest b kd st (ts ++ us) q)) := by
  induction n with
  | zero =>
    intro p ts ha _
    refine Ev.step (fun j => ?_) (by simpa [many, Out.bind] using j1_ok ha kd st ts)
    simp [code_Decode.l0]
  | succ n ih =>
    intro p ts ha hts
    have hl : ts.length < 8796093022208 := by omega
    have w1 : wrap64 (((n + 1 : Nat) : Int) - 1) = (n : Int) := by unfold wrap64; omega
    obtain ⟨t, ht, hn⟩ := text_f ha
    have hs : ∀ j, code_Decode.l0 (j + 1) b ((n + 1 : Nat) : Int) b (p : Int) 0 0 kd ts st = (code_source_text.f j b (p : Int) 0 0).bind fun bt124 => (if ts.length < 8796093022208 then (code_Decode.l0 j b (n : Int) b bt124.2.1 bt124.2.2.1 bt124.2.2.2 kd (ts ++ [bt124.1]) st) else (none)) := by
      intro j
      have : ((n + 1 : Nat) : Int) > 0 := by omega
      simp only [code_Decode.l0, this, if_true, w1]
    refine Ev.step hs (Ev.bind ht ?_)
    simp only [hl, if_true, many]
    cases hq : text b p with
    | er e f =>
      rw [hq] at hn
      obtain ⟨he, q, hq2, rfl⟩ := hn
      exact l0_er b _ _ e _ kd st _ he
    | ok s q =>
      rw [hq] at hn
      obtain rfl : t = (s, (q : Int), 0, 0) := hn
      have := ih q (ts ++ [s]) (ha.mv (text_le ha hq)) (by simp; omega)
      simp only [Out.bind] at this ⊢
      cases hm : many (text b) n q with
      | er e f => rw [hm] at this; exact this
      | ok us r =>
        rw [hm] at this
        simpa [List.append_assoc] using this

/-- code.Decode's answer. -/
def decode (b : List Int) : Tup := if b.length > 1048576 then (0, [], [], 0, 0, 3) else ans (dec b)

theorem decode_f (b : List Int) (hb : ∀ c ∈ b, 0 ≤ c ∧ c ≤ 255) : Ev (fun j => code_Decode.f j b) (decode b) := by
  unfold code_Decode.f decode
  by_cases h : b.length > 1048576
  · have h' : (b.length : Int) > 1048576 := by omega
    simp only [h, h', if_true]
    exact Ev.now _
  have h' : ¬ (b.length : Int) > 1048576 := by omega
  simp only [h, h', if_false]
  have hd : dec b = (oct b (· == 86) 0).bind fun _ p => (oct b (· == 80) p).bind fun _ p => (oct b isKind p).bind fun kd p => (num b 2147483647 p).bind fun st p => (num b 8192 p).bind fun n p => (many (text b) n p).bind fun ts p => rest b kd st ts p := by
    unfold dec dec0 rest fin
    cases oct b (· == 86) 0 with
    | er e f => rfl
    | ok c p =>
    simp only [Out.bind]
    cases oct b (· == 80) p with
    | er e f => rfl
    | ok c p =>
    simp only [Out.bind]
    cases oct b isKind p with
    | er e f => rfl
    | ok c p =>
    simp only [Out.bind]
    cases num b 2147483647 p with
    | er e f => rfl
    | ok c p =>
    simp only [Out.bind]
    cases num b 8192 p with
    | er e f => rfl
    | ok c p =>
    simp only [Out.bind]
    cases many (text b) c p with
    | er e f => rfl
    | ok c p =>
    simp only [Out.bind]
    cases num b 32768 p with
    | er e f => rfl
    | ok c p =>
    simp only [Out.bind]
    cases many (instr b) c p with
    | er e f => rfl
    | ok c p => rfl
  rw [hd]
  have ha : At b 0 := ⟨by omega, by omega, hb⟩
  have oct210 : ∀ {p : Int → Bool} {pos f : Nat} {e : Int}, oct b p pos = .er e f → e = 210 := by
    intro p pos f e h1
    unfold oct at h1
    split at h1
    · split at h1
      · cases h1
      · injection h1 with h1; exact h1.symm
    · injection h1 with h1; exact h1.symm
  have o1 := octG_ok (code_is.f 86) (· == 86) (fun c => rfl) ha
  rw [← octV_eq] at o1
  have o1' : octetV.f b 0 0 0 = _ := o1
  rw [o1']
  cases h1 : oct b (· == 86) 0 with
  | er e f =>
    obtain rfl := oct210 h1
    simp only [Option.bind_some, octP_eq, octG_er _ _ _ 210 _ (by decide), octK_eq, Out.bind, ans]
    refine Ev.bind (num_f_er b _ 210 _ 2147483647 (by decide)) (Ev.bind (num_f_er b _ 210 _ 8192 (by decide)) ?_)
    exact l0_er b _ _ 210 _ _ _ _ (by decide)
  | ok c1 p1 =>
  have ha1 := ha.mv (oct_le h1)
  simp only [Option.bind_some, Out.bind]
  have o2 := octG_ok (code_is.f 80) (· == 80) (fun c => rfl) ha1
  rw [← octP_eq] at o2
  rw [o2]
  cases h2 : oct b (· == 80) p1 with
  | er e f =>
    obtain rfl := oct210 h2
    simp only [Option.bind_some, octG_er _ _ _ 210 _ (by decide), octK_eq, Out.bind, ans]
    refine Ev.bind (num_f_er b _ 210 _ 2147483647 (by decide)) (Ev.bind (num_f_er b _ 210 _ 8192 (by decide)) ?_)
    exact l0_er b _ _ 210 _ _ _ _ (by decide)
  | ok c2 p2 =>
  have ha2 := ha1.mv (oct_le h2)
  simp only [Option.bind_some, Out.bind]
  have o3 := octG_ok code_Decode_2.f isKind isKind_f ha2
  rw [← octK_eq] at o3
  rw [o3]
  cases h3 : oct b isKind p2 with
  | er e f =>
    obtain rfl := oct210 h3
    simp only [Option.bind_some, Out.bind, ans]
    refine Ev.bind (num_f_er b _ 210 _ 2147483647 (by decide)) (Ev.bind (num_f_er b _ 210 _ 8192 (by decide)) ?_)
    exact l0_er b _ _ 210 _ _ _ _ (by decide)
  | ok kd p3 =>
  have ha3 := ha2.mv (oct_le h3)
  simp only [Option.bind_some, Out.bind]
  obtain ⟨t, ht, hn⟩ := num_f ha3 2147483647 (by omega)
  cases h4 : num b 2147483647 p3 with
  | er e f =>
    rw [h4] at hn
    obtain ⟨he, q, hq2, rfl⟩ := hn
    refine Ev.bind ht (Ev.bind (num_f_er b _ e _ 8192 he) ?_)
    simp only [Out.bind, ans]
    exact l0_er b _ _ e _ _ _ _ he
  | ok st p4 =>
  rw [h4] at hn
  obtain rfl : t = ((st : Int), (p4 : Int), 0, 0) := hn
  have ha4 := ha3.mv (num_le ha3 h4)
  refine Ev.bind ht ?_
  simp only [Out.bind]
  obtain ⟨t, ht, hn⟩ := num_f ha4 8192 (by omega)
  cases h5 : num b 8192 p4 with
  | er e f =>
    rw [h5] at hn
    obtain ⟨he, q, hq2, rfl⟩ := hn
    refine Ev.bind ht ?_
    simp only [Out.bind, ans]
    exact l0_er b _ _ e _ _ _ _ he
  | ok n p5 =>
  rw [h5] at hn
  obtain rfl : t = ((n : Int), (p5 : Int), 0, 0) := hn
  have ha5 := ha4.mv (num_le ha4 h5)
  have hnb := (num_ok ha4.bytes h5).2.2.2.1
  refine Ev.bind ht ?_
  simp only [Out.bind]
  have := l0_ok b kd st n p5 [] ha5 (by simp; omega)
  simp only [List.nil_append] at this
  exact this

end Go.Proofs.Ytmhmappdohddeaa.CodeF
