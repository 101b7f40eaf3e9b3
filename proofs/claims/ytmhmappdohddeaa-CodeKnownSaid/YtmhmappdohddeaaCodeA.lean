/- What the program's code.Encode writes, plainly: numbers of seven bits a byte, texts with their lengths, instructions with their numbers. -/
import Derived.Test.YtmhmappdohddeaaHapiInstr24
import Derived.Test.YtmhmappdohddeaaHcodeput
namespace Go.Proofs.Ytmhmappdohddeaa.CodeA
open Go.RowKit Go.Proofs.YtmhmappdohddeaaW.PrintWords Go.Proofs.Ytmhmappdohddeaa.H
set_option linter.unusedVariables false
set_option linter.unusedSimpArgs false

theorem wrap_succ {i : Int} {n : Nat} (h0 : 0 ≤ i) (h : i < (n : Int)) (hn : n ≤ 9223372036854775807) : wrap64 (i + 1) = i + 1 := by
  unfold wrap64
  omega

theorem or128 : ∀ y : Fin 256, Go.bits .or .u8 ((y.val : Nat) : Int) 128 = ((y.val % 128 + 128 : Nat) : Int) := by decide +kernel
theorem or128_of (x : Int) (h : 0 ≤ x) : Go.bits .or .u8 (x % 256) 128 = x % 128 + 128 := by
  have h1 := or128 ⟨(x % 256).toNat, by omega⟩
  have h2 : (((x % 256).toNat : Nat) : Int) = x % 256 := by omega
  simp only [h2] at h1
  rw [h1]
  omega

/-- A number's bytes. -/
def put (n : Nat) : List Int := if n < 128 then [(n : Int)] else ((n % 128 + 128 : Nat) : Int) :: put (n / 128)
termination_by n

theorem put_small {n : Nat} (h : n < 128) : put n = [(n : Int)] := by rw [put, if_pos h]
theorem put_large {n : Nat} (h : ¬ n < 128) : put n = ((n % 128 + 128 : Nat) : Int) :: put (n / 128) := by rw [put, if_neg h]

theorem put_length (k : Nat) : ∀ n, n < 128 ^ (k + 1) → (put n).length ≤ k + 1 := by
  induction k with
  | zero => intro n h; rw [put_small (by omega)]; simp
  | succ k ih =>
    intro n h
    by_cases hn : n < 128
    · rw [put_small hn]; simp
    · rw [put_large hn, List.length_cons]
      have := ih (n / 128) (by rw [Nat.pow_succ] at h; omega)
      omega
theorem put_length5 (n : Nat) (h : n < 4294967296) : (put n).length ≤ 5 := put_length 4 n (by omega)
theorem put_pos (n : Nat) : 1 ≤ (put n).length := by
  by_cases hn : n < 128
  · rw [put_small hn]; simp
  · rw [put_large hn]; simp

theorem put_l0 (n : Nat) : ∀ l : List Int, l.length + (put n).length ≤ 140737488355328 → Ev (fun k => code_put.l0 k l (n : Int)) (l ++ put n) := by
  induction n using Nat.strongRecOn with
  | _ n ih =>
    intro l hl
    by_cases hn : n < 128
    · rw [put_small hn] at hl ⊢
      simp only [List.length_singleton] at hl
      refine Ev.step (f := fun _ => some (l ++ [(n : Int)])) (fun k => ?_) (Ev.now _)
      show (if _ then _ else _) = _
      rw [if_neg (by omega), if_pos (by omega)]
      congr 4
      omega
    · rw [put_large hn] at hl ⊢
      rw [List.length_cons] at hl
      have h1 := ih (n / 128) (by omega) (l ++ [((n % 128 + 128 : Nat) : Int)]) (by simp; omega)
      rw [List.append_assoc] at h1
      refine Ev.step (fun k => ?_) h1
      show (if _ then _ else _) = _
      rw [if_pos (by omega), if_pos (by omega), or128_of _ (by omega)]
      congr 3

theorem put_f (n : Nat) (hn : n < 4294967296) (l : List Int) (hl : l.length + 5 ≤ 140737488355328) : Ev (fun k => code_put.f k l (n : Int)) (l ++ put n) := by
  have h := put_l0 n l (by have := put_length5 n hn; omega)
  refine Ev.congr (fun k => ?_) h
  show code_put.l0 k l _ = _
  congr 1
  omega

/-- The shape of an instruction. -/
def ofS (op : Int) : Int := if op = 1 ∨ op = 2 ∨ op = 3 ∨ op = 4 ∨ op = 34 ∨ op = 26 ∨ op = 27 ∨ op = 28 ∨ op = 29 then 1 else if op = 37 then 3 else 0

theorem of_f (op : Int) : Ev (fun k => code_of.f k op) (ofS op) := by
  have hj : ∀ b : Bool, Ev (fun k => code_of.j0 k op b) (if b = true then 1 else if op = 37 then 3 else 0) := by
    intro b
    refine Ev.step (f := fun _ => some (if b = true then 1 else if op = 37 then 3 else 0)) (fun k => ?_) (Ev.now _)
    show (if _ then _ else _) = _
    split
    · rfl
    · split <;> rfl
  unfold code_of.f ofS
  by_cases h1 : op = 1
  · simp only [h1, if_true]; subst h1; simpa using hj true
  by_cases h2 : op = 2
  · subst h2; simpa using hj true
  by_cases h3 : op = 3
  · subst h3; simpa using hj true
  by_cases h4 : op = 4
  · subst h4; simpa using hj true
  by_cases h5 : op = 34
  · subst h5; simpa using hj true
  by_cases h6 : op = 26
  · subst h6; simpa using hj true
  by_cases h7 : op = 27
  · subst h7; simpa using hj true
  by_cases h8 : op = 28
  · subst h8; simpa using hj true
  · simp only [h1, h2, h3, h4, h5, h6, h7, h8, if_false, false_or]
    have := hj (op == 29)
    simpa using this

def hasA (op : Int) : Bool := ofS op != 0
def hasB (op : Int) : Bool := ofS op == 3
theorem ofS_and1 (op : Int) : (Go.bits .and .u8 (ofS op) 1 = 0) ↔ hasA op = false := by
  unfold hasA ofS
  split
  · constructor <;> intro h <;> revert h <;> decide
  · split
    · constructor <;> intro h <;> revert h <;> decide
    · constructor <;> intro h <;> revert h <;> decide
theorem ofS_and2 (op : Int) : (Go.bits .and .u8 (ofS op) 2 = 0) ↔ hasB op = false := by
  unfold hasB ofS
  split
  · constructor <;> intro h <;> revert h <;> decide
  · split
    · constructor <;> intro h <;> revert h <;> decide
    · constructor <;> intro h <;> revert h <;> decide

/-- May a number be written, where it has a meaning, or not? -/
def right (n : Int) (meant : Bool) : Bool := n == 0 || (meant && decide (0 < n) && decide (n ≤ 2147483647))
theorem right_f (n : Int) (b : Bool) : code_right.f n b = some (right n b) := by
  unfold code_right.f right
  by_cases h : n = 0
  · subst h; simp
  · rw [if_neg h]
    cases b
    · simp [h]
    · by_cases h2 : n > 0
      · have h2' : 0 < n := h2
        simp [h, h2']
      · have : ¬ 0 < n := h2
        simp [h, this]

/-- May an instruction be written? -/
def okI (x : S41) : Bool := decide (1 ≤ x.f0) && decide (x.f0 ≤ 38) && right x.f1 (hasA x.f0) && right x.f2 (hasB x.f0)
theorem wrong_f (x : S41) : Ev (fun k => code_wrong.f k x.f0 x.f1 x.f2) (!okI x) := by
  unfold code_wrong.f okI
  by_cases h1 : x.f0 < 1
  · have : ¬ 1 ≤ x.f0 := by omega
    simp only [h1, if_true, this]
    exact Ev.now _
  by_cases h2 : x.f0 > 38
  · have h2' : ¬ x.f0 ≤ 38 := by omega
    simp only [h1, if_false, h2, if_true, h2']
    simpa using Ev.now true
  · have h1' : 1 ≤ x.f0 := by omega
    have h2' : x.f0 ≤ 38 := by omega
    have ha : ((Go.bits .and .u8 (ofS x.f0) 1) != 0) = hasA x.f0 := by
      have := ofS_and1 x.f0
      cases h : hasA x.f0
      · rw [h] at this; simp [this.2 rfl]
      · have h3 : ¬ Go.bits .and .u8 (ofS x.f0) 1 = 0 := fun e => by have := this.1 e; rw [h] at this; cases this
        simpa using h3
    have hb : ((Go.bits .and .u8 (ofS x.f0) 2) != 0) = hasB x.f0 := by
      have := ofS_and2 x.f0
      cases h : hasB x.f0
      · rw [h] at this; simp [this.2 rfl]
      · have h3 : ¬ Go.bits .and .u8 (ofS x.f0) 2 = 0 := fun e => by have := this.1 e; rw [h] at this; cases this
        simpa using h3
    simp only [h1, h2, if_false]
    refine Ev.bind (of_f x.f0) ?_
    simp only [ha, right_f, Option.bind_some]
    cases hr : right x.f1 (hasA x.f0)
    · simp only [Bool.false_eq_true, if_false, Bool.and_false, Bool.false_and, Bool.not_false]
      exact Ev.now true
    · simp only [if_true]
      refine Ev.bind (of_f x.f0) ?_
      simp only [hb, Option.bind_some, h1', h2', decide_true, Bool.true_and]
      exact Ev.now _

theorem index_l0 (xs : List S41) (hn : xs.length ≤ 9223372036854775807) (d : Nat) : ∀ i : Nat, i ≤ xs.length → xs.length - i = d →
    ∃ r : Int, Ev (fun k => api_Instr_51.l0 k xs (xs.length : Int) (i : Int)) r ∧ (decide (r ≥ 0) = (xs.drop i).any (fun x => !okI x)) := by
  induction d with
  | zero =>
    intro i hi hd
    have : i = xs.length := by omega
    subst this
    refine ⟨-1, Ev.step (f := fun _ => some (-1)) (fun k => ?_) (Ev.now _), by simp⟩
    show (if _ then _ else _) = _
    rw [if_neg (by omega)]
  | succ d ih =>
    intro i hi hd
    have hlt : i < xs.length := by omega
    have hx : rd_T41 xs (i : Int) = xs[i] := by
      unfold rd_T41
      rw [Int.toNat_natCast, List.getD_eq_getElem?_getD, List.getElem?_eq_getElem hlt]; rfl
    have hdrop : xs.drop i = xs[i] :: xs.drop (i + 1) := List.drop_eq_getElem_cons hlt
    have hw := wrong_f xs[i]
    have hstep : ∀ k, api_Instr_51.l0 (k + 1) xs (xs.length : Int) (i : Int) = (code_wrong.f k xs[i].f0 xs[i].f1 xs[i].f2).bind fun t => if t = true then some (i : Int) else api_Instr_51.l0 k xs (xs.length : Int) ((i + 1 : Nat) : Int) := by
      intro k
      show (if _ then _ else _) = _
      rw [if_pos (by omega), if_pos (by omega), if_pos (by omega), hx, wrap_succ (n := xs.length) (by omega) (by omega) hn]
      rfl
    cases hb : okI xs[i]
    · refine ⟨i, Ev.step hstep (Ev.bind hw ?_), ?_⟩
      · rw [hb]; exact Ev.now _
      · rw [hdrop, List.any_cons, hb]; simp
    · obtain ⟨r, hr, ha⟩ := ih (i + 1) (by omega) (by omega)
      refine ⟨r, Ev.step hstep (Ev.bind hw ?_), ?_⟩
      · rw [hb]; exact hr
      · rw [hdrop, List.any_cons, hb, ha]; simp

theorem contains_f (xs : List S41) (hn : xs.length ≤ 9223372036854775807) : Ev (fun k => api_Instr_24.f k xs) (xs.any (fun x => !okI x)) := by
  obtain ⟨r, hr, ha⟩ := index_l0 xs hn xs.length 0 (by omega) (by omega)
  unfold api_Instr_24.f api_Instr_51.f
  refine Ev.bind hr ?_
  rw [ha]
  exact Ev.now _

end Go.Proofs.Ytmhmappdohddeaa.CodeA
