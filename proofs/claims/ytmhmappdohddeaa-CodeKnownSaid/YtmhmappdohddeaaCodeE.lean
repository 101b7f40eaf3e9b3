/- What the program's code.Decode answers, plainly: just what is read (CodeD). -/
import Derived.Test.YtmhmappdohddeaaCodeD
import Derived.Test.YtmhmappdohddeaaHcodesourcetext
import Derived.Test.YtmhmappdohddeaaHoctetK
import Derived.Test.YtmhmappdohddeaaHoctetO
import Derived.Test.YtmhmappdohddeaaHand
import Derived.Laws.BitsLemmas
namespace Go.Proofs.Ytmhmappdohddeaa.CodeE
open Go.RowKit Go.Proofs.YtmhmappdohddeaaW.PrintWords Go.Proofs.Ytmhmappdohddeaa.H Go.Proofs.Ytmhmappdohddeaa.CodeA Go.Proofs.Ytmhmappdohddeaa.CodeB Go.Proofs.Ytmhmappdohddeaa.CodeC Go.Proofs.Ytmhmappdohddeaa.CodeD
set_option linter.unusedVariables false
set_option linter.unusedSimpArgs false

/-- A place in bytes that are not too long. -/
structure At (b : List Int) (pos : Nat) : Prop where
  le : pos ≤ b.length
  len : b.length ≤ 1048577
  bytes : ∀ c ∈ b, 0 ≤ c ∧ c ≤ 255

theorem At.mv {b : List Int} {p q : Nat} (h : At b p) (hq : q ≤ b.length) : At b q := ⟨hq, h.len, h.bytes⟩

theorem oct_le {b : List Int} {p : Int → Bool} {pos q : Nat} {c : Int} (h : oct b p pos = .ok c q) : q ≤ b.length := by
  obtain ⟨h1, _, _, h2⟩ := oct_ok h
  omega
theorem num_le {b : List Int} {most pos v q : Nat} (ha : At b pos) (h : num b most pos = .ok v q) : q ≤ b.length := (num_ok ha.bytes h).2.1
theorem text_le {b : List Int} {pos q : Nat} {s : ByteArray} (ha : At b pos) (h : text b pos = .ok s q) : q ≤ b.length := (text_ok ha.bytes h).2
theorem instr_le {b : List Int} {pos q : Nat} {x : S41} (ha : At b pos) (h : instr b pos = .ok x q) : q ≤ b.length := (instr_ok ha.bytes h).2.1

/-- octet, with whatever test. -/
def octG (test : Int → Option Bool) (s0_0 : List Int) (s0_1 : Int) (s0_2 : Int) (s0_3 : Int) : Option (Int × Int × Int × Int) := if s0_2 = 0 then (if s0_1 = (s0_0.length : Int) then ((code_source_fail.f s0_0 s0_1 s0_2 s0_3 210 s0_1).bind fun bt101 => (some (0, bt101.1, bt101.2.1, bt101.2.2))) else (if 0 ≤ s0_1 then (if s0_1 < (s0_0.length : Int) then ((test (rd s0_0 s0_1)).bind fun t105 => (if t105 = true then (if 0 ≤ (wrap64 ((wrap64 (s0_1 + 1)) - 1)) then (if (wrap64 ((wrap64 (s0_1 + 1)) - 1)) < (s0_0.length : Int) then (some (rd s0_0 (wrap64 ((wrap64 (s0_1 + 1)) - 1)), wrap64 (s0_1 + 1), s0_2, s0_3)) else (none)) else (none)) else ((code_source_fail.f s0_0 s0_1 s0_2 s0_3 210 s0_1).bind fun bt107 => (some (0, bt107.1, bt107.2.1, bt107.2.2))))) else (none)) else (none))) else (some (0, s0_1, s0_2, s0_3))

theorem octG_ok (test : Int → Option Bool) (p : Int → Bool) (ht : ∀ c, test c = some (p c)) {b : List Int} {pos : Nat} (ha : At b pos) :
    octG test b pos 0 0 = some (match oct b p pos with | .ok c q => (c, (q : Int), 0, 0) | .er e f => (0, (pos : Int), e, (f : Int))) := by
  have h1 := ha.le
  have h2 := ha.len
  unfold octG oct
  rw [if_pos rfl]
  by_cases hp : pos = b.length
  · have hn : b[pos]? = none := List.getElem?_eq_none (by omega)
    rw [if_pos (by omega), hn]
    simp [code_source_fail.f]
  · have hlt : pos < b.length := by omega
    have hr : rd b (pos : Int) = b[pos] := by unfold rd; rw [Int.toNat_natCast, List.getD_eq_getElem?_getD, List.getElem?_eq_getElem hlt]; rfl
    have w1 : wrap64 ((pos : Int) + 1) = ((pos + 1 : Nat) : Int) := by unfold wrap64; omega
    have w2 : wrap64 (((pos + 1 : Nat) : Int) - 1) = (pos : Int) := by unfold wrap64; omega
    rw [if_neg (by omega), if_pos (by omega), if_pos (by omega), hr, ht, List.getElem?_eq_getElem hlt]
    simp only [Option.bind_some, w1, w2]
    cases hc : p b[pos]
    · simp [code_source_fail.f, hc]
    · simp only [if_true]
      rw [if_pos (by omega), if_pos (by omega), hr]
theorem octG_er (test : Int → Option Bool) (b : List Int) (s e f : Int) (he : e ≠ 0) : octG test b s e f = some (0, s, e, f) := by
  unfold octG
  rw [if_neg he]

theorem octN_eq (b : List Int) (s e f : Int) : octetN.f b s e f = octG code_source_number_1.f b s e f := rfl
theorem octK_eq (b : List Int) (s e f : Int) : octetK.f b s e f = octG code_Decode_2.f b s e f := rfl
theorem octO_eq (b : List Int) (s e f : Int) : octetO.f b s e f = octG code_Decode_3.f b s e f := rfl
theorem octV_eq (b : List Int) (s e f : Int) : octetV.f b s e f = octG (code_is.f 86) b s e f := rfl
theorem octP_eq (b : List Int) (s e f : Int) : octetP.f b s e f = octG (code_is.f 80) b s e f := rfl
theorem isKind_f (c : Int) : code_Decode_2.f c = some (isKind c) := by
  unfold code_Decode_2.f isKind
  split
  · rename_i h; simp [h]
  · rename_i h; simp [h]
theorem isOp_f (c : Int) : code_Decode_3.f c = some (isOp c) := by
  unfold code_Decode_3.f isOp
  split
  · rename_i h
    have : 1 ≤ c := h
    simp [this]
  · rename_i h
    have : ¬ 1 ≤ c := h
    simp [this]

/-! numbers -/
theorem and127 : ∀ y : Fin 256, Go.bits .and .u8 ((y.val : Nat) : Int) 127 = ((y.val % 128 : Nat) : Int) := by decide +kernel
theorem and127_of (c : Int) (h : 0 ≤ c ∧ c ≤ 255) : Go.bits .and .u8 c 127 = ((c.toNat % 128 : Nat) : Int) := by
  have h1 := and127 ⟨c.toNat, by omega⟩
  have h2 : ((c.toNat : Nat) : Int) = c := by omega
  simp only [h2] at h1
  exact h1
theorem or_comm_u64 (x y : Int) : Go.bits .or .u64 x y = Go.bits .or .u64 y x := by
  show IntKind.u64.wrap ((BitVec.ofInt _ x ||| BitVec.ofInt _ y).toNat : Int) = IntKind.u64.wrap ((BitVec.ofInt _ y ||| BitVec.ofInt _ x).toNat : Int)
  rw [BitVec.or_comm]
theorem wrap_u64 (n : Int) (h0 : 0 ≤ n) (h1 : n < 18446744073709551616) : IntKind.u64.wrap n = n := by
  simp only [IntKind.wrap, IntKind.bits, IntKind.signed, Bool.false_and, Bool.false_eq_true, if_false]
  omega

theorem joined (u x sh : Nat) (hu : u < 2 ^ sh) (hx : x < 128) (hsh : sh ≤ 28) :
    Go.bits .or .u64 (u : Int) (IntKind.u64.wrap ((IntKind.u64.wrap ((x : Nat) : Int)) * 2 ^ ((sh : Int)).toNat)) = ((u + x * 2 ^ sh : Nat) : Int) := by
  have hb : x * 2 ^ sh < 2 ^ 35 := by
    have h1 : (2 : Nat) ^ sh ≤ 2 ^ 28 := Nat.pow_le_pow_right (by omega) hsh
    calc x * 2 ^ sh ≤ 127 * 2 ^ 28 := Nat.mul_le_mul (by omega) h1
      _ < 2 ^ 35 := by decide
  have e0 : IntKind.u64.wrap ((x : Nat) : Int) = (x : Int) := wrap_u64 _ (by omega) (by omega)
  have e1 : ((x : Int)) * 2 ^ ((sh : Int)).toNat = ((x * 2 ^ sh : Nat) : Int) := by
    rw [Int.toNat_natCast]
    push_cast
    rfl
  rw [e0, e1, wrap_u64 _ (by omega) (by omega), or_comm_u64]
  have hu2 : u < 2 ^ 35 := Nat.lt_of_lt_of_le hu (Nat.pow_le_pow_right (by omega) (by omega))
  rw [Go.bits_join .u64 35 (by decide) (fun n h0 h1 => wrap_u64 n h0 (by omega)) sh _ _ (by omega) ?_ (by exact_mod_cast hb) (by omega) (by exact_mod_cast hu) (by exact_mod_cast hu2)]
  · omega
  · have : (x * 2 ^ sh) % 2 ^ sh = 0 := Nat.mul_mod_left _ _
    exact_mod_cast this

/-- What a reader of numbers answers. -/
def NumIs (b : List Int) (o : Out Nat) (t : Int × Int × Int × Int) : Prop :=
  match o with
  | .ok v q => t = ((v : Int), (q : Int), 0, 0)
  | .er e f => e ≠ 0 ∧ ∃ p : Nat, p ≤ b.length ∧ t = (0, (p : Int), e, (f : Int))

theorem j1_t (b : List Int) (most start v : Int) (p : Nat) : Ev (fun j => code_source_number.j1 j most start v true b (p : Int) 0 0) (0, (p : Int), 210, start) := by
  refine Ev.step (f := fun _ => some (0, (p : Int), 210, start)) (fun j => ?_) (Ev.now _)
  simp [code_source_number.j1, code_source_fail.f]
theorem j1_f (b : List Int) (most : Nat) (start : Int) (v p : Nat) (hm : most ≤ 2147483647) (hv : v ≤ 2147483647) :
    Ev (fun j => code_source_number.j1 j (most : Int) start (v : Int) false b (p : Int) 0 0) (if v > most then (0, (p : Int), 3, start) else ((v : Int), (p : Int), 0, 0)) := by
  refine Ev.step (f := fun _ => some (if v > most then (0, (p : Int), 3, start) else ((v : Int), (p : Int), 0, 0))) (fun j => ?_) (Ev.now _)
  have e1 : IntKind.u64.wrap (most : Int) = (most : Int) := wrap_u64 _ (by omega) (by omega)
  have e2 : wrap64 (v : Int) = (v : Int) := by unfold wrap64; omega
  simp only [code_source_number.j1, Bool.false_eq_true, if_false, e1, e2]
  by_cases h : v > most
  · have h' : (v : Int) > (most : Int) := by omega
    simp [h, h', code_source_fail.f]
  · have h' : ¬ (v : Int) > (most : Int) := by omega
    simp [h, h']
theorem l0_er (b : List Int) (most start u sh p e f : Int) (he : e ≠ 0) : Ev (fun j => code_source_number.l0 j most start u sh b p e f) (0, p, e, f) := by
  refine Ev.step (f := fun _ => some (0, p, e, f)) (fun j => ?_) (Ev.now _)
  simp [code_source_number.l0, he]

theorem num_l0 (b : List Int) (hlen : b.length ≤ 1048577) (hby : ∀ c ∈ b, 0 ≤ c ∧ c ≤ 255) (most start : Nat) (hm : most ≤ 2147483647) (k : Nat) : ∀ (pos u sh : Nat), pos ≤ b.length → 1 ≤ k → k ≤ 5 → sh = 7 * (5 - k) → u < 2 ^ sh →
    ∃ t, Ev (fun j => code_source_number.l0 j (most : Int) (start : Int) (u : Int) (sh : Int) b (pos : Int) 0 0) t ∧ NumIs b (numL b most start k pos u sh) t := by
  induction k with
  | zero => intro pos u sh _ h; omega
  | succ k ih =>
    intro pos u sh hp _ hk hsh hu
    have ha : At b pos := ⟨hp, hlen, hby⟩
    have ho := octG_ok code_source_number_1.f (fun _ => true) (fun _ => rfl) ha
    rw [← octN_eq] at ho
    cases hc : b[pos]? with
    | none =>
      simp only [oct, hc] at ho
      refine ⟨(0, (pos : Int), 210, (pos : Int)), Ev.step (f := fun _ => some (0, (pos : Int), 210, (pos : Int))) (fun j => ?_) (Ev.now _), ?_⟩
      · simp [code_source_number.l0, ho]
      · simp only [numL, hc, NumIs]
        exact ⟨by decide, pos, hp, rfl⟩
    | some c =>
      simp only [oct, hc, if_true] at ho
      obtain ⟨hl, hg⟩ := List.getElem?_eq_some_iff.1 hc
      have hcb := hby c (by rw [← hg]; exact List.getElem_mem hl)
      have hj := joined u (c.toNat % 128) sh hu (by omega) (by omega)
      have han := and127_of c hcb
      have s0 : (0 : Int) ≤ (sh : Int) := by omega
      have s64 : (sh : Int) ≤ 64 := by omega
      by_cases c1 : c < 128
      · by_cases c2 : u + c.toNat % 128 * 2 ^ sh > 2147483647
        · have c2' : ((u + c.toNat % 128 * 2 ^ sh : Nat) : Int) > 2147483647 := by omega
          refine ⟨_, Ev.step (fun j => ?_) (j1_t b most start ((u + c.toNat % 128 * 2 ^ sh : Nat) : Int) (pos + 1)), ?_⟩
          · simp only [code_source_number.l0, if_true, ho, Option.bind_some, s0, s64, c1, han, hj, c2']
          · simp only [numL, hc, c1, if_true, c2, true_or, NumIs]
            exact ⟨by decide, pos + 1, by omega, rfl⟩
        · have c2' : ¬ ((u + c.toNat % 128 * 2 ^ sh : Nat) : Int) > 2147483647 := by omega
          by_cases c3 : sh > 0 ∧ c = 0
          · have s1 : (sh : Int) > 0 := by omega
            have cb : (c == 0) = true := by rw [c3.2]; rfl
            refine ⟨_, Ev.step (fun j => ?_) (j1_t b most start ((u + c.toNat % 128 * 2 ^ sh : Nat) : Int) (pos + 1)), ?_⟩
            · simp only [code_source_number.l0, if_true, ho, Option.bind_some, s0, s64, c1, han, hj, c2', if_false, s1, cb]
            · have hnum : numL b most start (k + 1) pos u sh = .er 210 start := by
                have c23 : u + c.toNat % 128 * 2 ^ sh > 2147483647 ∨ (sh > 0 ∧ c = 0) := .inr c3
                simp only [numL, hc, c1, if_true, c23]
              rw [hnum]
              exact ⟨by decide, pos + 1, by omega, rfl⟩
          · have hf := j1_f b most start (u + c.toNat % 128 * 2 ^ sh) (pos + 1) hm (by omega)
            have hn : NumIs b (numL b most start (k + 1) pos u sh) (if u + c.toNat % 128 * 2 ^ sh > most then (0, ((pos + 1 : Nat) : Int), 3, (start : Int)) else (((u + c.toNat % 128 * 2 ^ sh : Nat) : Int), ((pos + 1 : Nat) : Int), 0, 0)) := by
              simp only [numL, hc, c1, if_true, c2, false_or, c3, if_false]
              by_cases c4 : u + c.toNat % 128 * 2 ^ sh > most
              · simp only [c4, if_true, NumIs]
                exact ⟨by decide, pos + 1, by omega, rfl⟩
              · simp only [c4, if_false, NumIs]
            refine ⟨_, Ev.step (fun j => ?_) hf, hn⟩
            by_cases s1 : (sh : Int) > 0
            · have cb : (c == 0) = false := by
                rw [beq_eq_false_iff_ne]
                intro e
                exact c3 ⟨by omega, e⟩
              simp only [code_source_number.l0, if_true, ho, Option.bind_some, s0, s64, c1, han, hj, c2', if_false, s1, cb]
            · simp only [code_source_number.l0, if_true, ho, Option.bind_some, s0, s64, c1, han, hj, c2', if_false, s1]
      · by_cases c5 : k = 0
        · subst c5
          have s28 : (sh : Int) = 28 := by omega
          have hl := l0_er b most start ((u + c.toNat % 128 * 2 ^ sh : Nat) : Int) (wrap64 ((sh : Int) + 7)) ((pos + 1 : Nat) : Int) 210 start (by decide)
          refine ⟨_, Ev.step (fun j => ?_) hl, ?_⟩
          · simp only [code_source_number.l0, if_true, ho, Option.bind_some, s0, s64, c1, han, hj, if_false, s28, code_source_fail.f]
            rw [s28] at hj
            simp only [hj]
            rw [if_pos (by decide), if_pos (by decide)]
          · simp only [numL, hc, c1, if_false, NumIs]
            exact ⟨by decide, pos + 1, by omega, rfl⟩
        · have s28 : ¬ (sh : Int) = 28 := by omega
          have w7 : wrap64 ((sh : Int) + 7) = ((sh + 7 : Nat) : Int) := by unfold wrap64; omega
          have hv : u + c.toNat % 128 * 2 ^ sh < 2 ^ (sh + 7) := by
            have h1 : c.toNat % 128 * 2 ^ sh ≤ 127 * 2 ^ sh := Nat.mul_le_mul (by omega) (Nat.le_refl _)
            rw [Nat.pow_add]
            omega
          obtain ⟨t, ht, hn⟩ := ih (pos + 1) (u + c.toNat % 128 * 2 ^ sh) (sh + 7) (by omega) (by omega) (by omega) (by omega) hv
          refine ⟨t, Ev.step (fun j => ?_) ht, ?_⟩
          · simp only [code_source_number.l0, if_true, ho, Option.bind_some, s0, s64, c1, han, hj, if_false, s28, w7]
          · simp only [numL, hc, c1, if_false]
            exact hn

theorem num_f {b : List Int} {pos : Nat} (ha : At b pos) (most : Nat) (hm : most ≤ 2147483647) : ∃ t, Ev (fun j => code_source_number.f j b (pos : Int) 0 0 (most : Int)) t ∧ NumIs b (num b most pos) t := by
  have := num_l0 b ha.len ha.bytes most pos hm 5 pos 0 0 ha.le (by omega) (by omega) (by omega) (by omega)
  exact this
theorem num_f_er (b : List Int) (p e f most : Int) (he : e ≠ 0) : Ev (fun j => code_source_number.f j b p e f most) (0, p, e, f) := l0_er b most p 0 0 p e f he

/-! texts -/
def TextIs (b : List Int) (o : Out ByteArray) (t : ByteArray × Int × Int × Int) : Prop :=
  match o with
  | .ok s q => t = (s, (q : Int), 0, 0)
  | .er e f => e ≠ 0 ∧ ∃ p : Nat, p ≤ b.length ∧ t = (⟨#[]⟩, (p : Int), e, (f : Int))

theorem text_f {b : List Int} {pos : Nat} (ha : At b pos) : ∃ t, Ev (fun j => code_source_text.f j b (pos : Int) 0 0) t ∧ TextIs b (text b pos) t := by
  obtain ⟨t, ht, hn⟩ := num_f ha 2147483647 (by omega)
  have hlen := ha.len
  unfold text
  cases ho : num b 2147483647 pos with
  | er e f =>
    rw [ho] at hn
    obtain ⟨he, p, hp, rfl⟩ := hn
    have w0 : ¬ (0 : Int) > wrap64 ((b.length : Int) - (p : Int)) := by unfold wrap64; omega
    refine ⟨(⟨#[]⟩, (p : Int), e, (f : Int)), Ev.bind ht ?_, he, p, hp, rfl⟩
    simp only [w0, if_false, he]
    exact Ev.now _
  | ok n q =>
    rw [ho] at hn
    have hq := num_le ha ho
    have ht' : Ev (fun j => code_source_number.f j b (pos : Int) 0 0 2147483647) ((n : Int), (q : Int), 0, 0) := by
      have : t = ((n : Int), (q : Int), 0, 0) := hn
      rw [this] at ht
      exact ht
    have hnb := (num_ok ha.bytes ho).2.2.2.1
    have w0 : wrap64 ((b.length : Int) - (q : Int)) = ((b.length - q : Nat) : Int) := by unfold wrap64; omega
    simp only [Out.bind]
    by_cases c : n > b.length - q
    · have c' : (n : Int) > ((b.length - q : Nat) : Int) := by omega
      simp only [c, if_true]
      refine ⟨(⟨#[]⟩, (q : Int), 210, (b.length : Int)), Ev.bind ht' ?_, ?_⟩
      · simp only [w0, c', if_true, code_source_fail.f, Option.bind_some]
        exact Ev.now _
      · exact ⟨by decide, q, hq, rfl⟩
    · have c' : ¬ (n : Int) > ((b.length - q : Nat) : Int) := by omega
      simp only [c, if_false]
      have w1 : wrap64 ((q : Int) + (n : Int)) = ((q + n : Nat) : Int) := by unfold wrap64; omega
      have w2 : wrap64 (((q + n : Nat) : Int) - (n : Int)) = (q : Int) := by unfold wrap64; omega
      have g1 : (0 : Int) ≤ (q : Int) := by omega
      have g2 : (q : Int) ≤ ((q + n : Nat) : Int) := by omega
      have g3 : ((q + n : Nat) : Int) ≤ (b.length : Int) := by omega
      refine ⟨_, Ev.bind ht' ?_, rfl⟩
      simp only [w0, c', if_false, if_true, w1, w2, g1, g2, g3, Int.toNat_natCast]
      rw [List.drop_take]
      have : q + n - q = n := by omega
      rw [this]
      exact Ev.now _

end Go.Proofs.Ytmhmappdohddeaa.CodeE
