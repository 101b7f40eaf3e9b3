/- The plain statement of CodeReads: any bytes: the program, the place and the error are the document's; they stay; and again. -/
import Derived.Test.YtmhmappdohddeaaCodeJ
import Derived.Test.YtmhmappdohddeaaStatCodeReads
namespace Go.Proofs.Ytmhmappdohddeaa.Pure
open Go.RowKit Go.Proofs.YtmhmappdohddeaaW.PrintWords Go.Proofs.Ytmhmappdohddeaa.H Go.Proofs.Ytmhmappdohddeaa.CodeA Go.Proofs.Ytmhmappdohddeaa.CodeB Go.Proofs.Ytmhmappdohddeaa.CodeC Go.Proofs.Ytmhmappdohddeaa.CodeD Go.Proofs.Ytmhmappdohddeaa.CodeE Go.Proofs.Ytmhmappdohddeaa.CodeF Go.Proofs.Ytmhmappdohddeaa.CodeG Go.Proofs.Ytmhmappdohddeaa.CodeH Go.Proofs.Ytmhmappdohddeaa.CodeI Go.Proofs.Ytmhmappdohddeaa.CodeJ Go.Proofs.Ytmhmappdohddeaa.PCodeReads
set_option linter.unusedVariables false
set_option linter.unusedSimpArgs false

theorem spoil1 (kd st : Int) (ts : List ByteArray) (n : Nat) : ∀ (i : Nat) (xs : List S41), i + n = xs.length → xs.length ≤ 9223372036854775806 → ∃ r, Ev (fun k => vouchkit_SpoilProgram.l1 k (i : Int) kd ts xs st) r := by
  induction n with
  | zero =>
    intro i xs hi hl
    refine ⟨(ts, xs), Ev.step (f := fun _ => some (ts, xs)) (fun j => ?_) (Ev.now _)⟩
    have : ¬ (i : Int) < (xs.length : Int) := by omega
    simp only [vouchkit_SpoilProgram.l1, this, if_false]
  | succ n ih =>
    intro i xs hi hl
    obtain ⟨r, hr⟩ := ih (i + 1) (xs.set i (⟨99, 0, 0⟩ : S41)) (by simp; omega) (by simp; omega)
    refine ⟨r, Ev.step (fun j => ?_) hr⟩
    have c1 : (i : Int) < (xs.length : Int) := by omega
    have c2 : (0 : Int) ≤ (i : Int) := by omega
    have w : wrap64 ((i : Int) + 1) = ((i + 1 : Nat) : Int) := by unfold wrap64; omega
    simp only [vouchkit_SpoilProgram.l1, c1, c2, if_true, w, Int.toNat_natCast]
theorem spoil0 (kd st : Int) (xs : List S41) (hx : xs.length ≤ 9223372036854775806) (n : Nat) : ∀ (i : Nat) (ts : List ByteArray), i + n = ts.length → ts.length ≤ 9223372036854775806 → ∃ r, Ev (fun k => vouchkit_SpoilProgram.l0 k (i : Int) kd ts xs st) r := by
  induction n with
  | zero =>
    intro i ts hi hl
    obtain ⟨r, hr⟩ := spoil1 kd st ts xs.length 0 xs (by omega) hx
    refine ⟨r, Ev.step (fun j => ?_) hr⟩
    have : ¬ (i : Int) < (ts.length : Int) := by omega
    simp only [vouchkit_SpoilProgram.l0, this, if_false]
    rfl
  | succ n ih =>
    intro i ts hi hl
    obtain ⟨r, hr⟩ := ih (i + 1) (ts.set i (⟨#[119, 114, 105, 116, 116, 101, 110, 32, 111, 118, 101, 114]⟩ : ByteArray)) (by simp; omega) (by simp; omega)
    refine ⟨r, Ev.step (fun j => ?_) hr⟩
    have c1 : (i : Int) < (ts.length : Int) := by omega
    have c2 : (0 : Int) ≤ (i : Int) := by omega
    have w : wrap64 ((i : Int) + 1) = ((i + 1 : Nat) : Int) := by unfold wrap64; omega
    simp only [vouchkit_SpoilProgram.l0, c1, c2, if_true, w, Int.toNat_natCast]

theorem reads_l0 (b : List Int) (hb : b.length ≤ 140737488351232) (kd st : Int) (ts : List ByteArray) (xs : List S41) (hx : xs.length ≤ 9223372036854775806) (ht : ts.length ≤ 9223372036854775806) (n : Nat) : ∀ (i : Nat) (y : List Int), i + n = b.length → y.length = b.length + 1 → Ev (fun k => vouchlaw21_CodeReads.l0 k b y (i : Int) kd ts xs st kd ts xs st) true := by
  induction n with
  | zero =>
    intro i y hi hy
    have hs : ∀ j, vouchlaw21_CodeReads.l0 (j + 1) b y (i : Int) kd ts xs st kd ts xs st = (vouchkit_SameProgram.f j kd ts xs st kd ts xs st).bind fun t157 => (if t157 = true then ((vouchlaw21_works.f j).bind fun t158 => (some t158)) else (some false)) := by
      intro j
      have : ¬ (i : Int) < (b.length : Int) := by omega
      simp only [vouchlaw21_CodeReads.l0, this, if_false]
    refine Ev.step hs (Ev.bind (same_f kd ts xs st kd ts xs st (by omega) (by omega)) ?_)
    have : decide (kd = kd ∧ ts = ts ∧ xs = xs ∧ st = st) = true := by simp
    simp only [this, if_true]
    exact Ev.congr (fun k => by cases vouchlaw21_works.f k <;> rfl) works_f
  | succ n ih =>
    intro i y hi hy
    refine Ev.step (fun j => ?_) (ih (i + 1) (y.set i 99) (by omega) (by simpa using hy))
    have c1 : (i : Int) < (b.length : Int) := by omega
    have c2 : (0 : Int) ≤ (i : Int) := by omega
    have c3 : (i : Int) < (y.length : Int) := by omega
    have w : wrap64 ((i : Int) + 1) = ((i + 1 : Nat) : Int) := by unfold wrap64; omega
    simp only [vouchlaw21_CodeReads.l0, c1, c2, c3, if_true, w, Int.toNat_natCast]

theorem decode_short {b : List Int} (hby : ∀ c ∈ b, 0 ≤ c ∧ c ≤ 255) : (CodeF.decode b).2.1.length ≤ 8192 ∧ (CodeF.decode b).2.2.1.length ≤ 32768 := by
  unfold CodeF.decode
  by_cases hl : b.length > 1048576
  · rw [if_pos hl]
    exact ⟨Nat.zero_le _, Nat.zero_le _⟩
  · rw [if_neg hl]
    cases hdc : dec b with
    | er e f => exact ⟨Nat.zero_le _, Nat.zero_le _⟩
    | ok r q =>
      obtain ⟨h1, h2⟩ := dec_ok hby hdc
      have hm := may_zero h1
      exact ⟨by simp only [ans]; omega, by simp only [ans]; omega⟩

theorem CodeReads : vouchlaw21_CodeReads.Pure := by
  intro b hb
  have hby : ∀ c ∈ b, 0 ≤ c ∧ c ≤ 255 := by
    intro c hc
    have := hb.2.2 c hc
    have h2 : IntKind.u8.min ≤ c ∧ c ≤ IntKind.u8.max := by simpa [Lit.wf] using this
    exact h2
  have hlen : b.length ≤ 140737488351232 := by have := hb.2.1; omega
  have hd := decode_f b hby
  have hr := refdecode_f b hby
  obtain ⟨s1, s2⟩ := decode_short hby
  have c1 : ([] : List Int).length + b.length < 140737488355328 := by simp only [List.length_nil]; omega
  have c2 : b.length < 140737488355328 := by omega
  have c3 : (0 : Int) ≤ (b.length : Int) := by omega
  have c4 : (b.length : Int) ≤ ((b ++ [77]).length : Int) := by rw [List.length_append]; omega
  have c5 : (b ++ [77]).take ((b.length : Int)).toNat = b := by simp
  have c6 : (b.length : Int) < ((b ++ [77]).length : Int) := by rw [List.length_append, List.length_singleton]; omega
  have c7 : (rd (b ++ [77]) (b.length : Int) != 77) = false := by
    have : rd (b ++ [77]) (b.length : Int) = 77 := by
      unfold rd
      rw [Int.toNat_natCast, List.getD_eq_getElem?_getD, List.getElem?_append_right (Nat.le_refl _), Nat.sub_self]
      rfl
    rw [this]
    rfl
  refine Ev.rounds (g := fun k => vouchlaw21_CodeReads.f k b) ?_
  unfold vouchlaw21_CodeReads.f
  simp only [c1, c2, if_true, Option.bind_some, List.nil_append, c3, c4, c5, c6, c7]
  refine Ev.bind hr (Ev.bind hd ?_)
  generalize CodeF.decode b = t at *
  obtain ⟨kd, ts, xs, st, f, e⟩ := t
  simp only at s1 s2 ⊢
  refine Ev.bind (same_f kd ts xs st kd ts xs st (by omega) (by omega)) ?_
  have : decide (kd = kd ∧ ts = ts ∧ xs = xs ∧ st = st) = true := by simp
  simp only [this, if_true]
  obtain ⟨r, hsp⟩ := spoil0 kd st xs (by omega) ts.length 0 ts (by omega) (by omega)
  have hs : ∀ j, vouchlaw21_CodeReads.j0 (j + 1) b (b ++ [77]) false kd ts xs st kd ts xs st = (vouchkit_SpoilProgram.f j kd ts xs st).bind fun bt139 => ((code_Decode.f j b).bind fun bt145 => (vouchlaw21_CodeReads.l0 j b (b ++ [77]) 0 kd ts xs st bt145.1 bt145.2.1 bt145.2.2.1 bt145.2.2.2.1)) := by
    intro j
    simp only [vouchlaw21_CodeReads.j0, Bool.false_eq_true, if_false, c3, c4, c5, if_true]
  refine Ev.step hs (Ev.bind hsp (Ev.bind hd ?_))
  exact reads_l0 b hlen kd st ts xs (by omega) (by omega) b.length 0 (b ++ [77]) (by omega) (by rw [List.length_append]; rfl)
end Go.Proofs.Ytmhmappdohddeaa.Pure
