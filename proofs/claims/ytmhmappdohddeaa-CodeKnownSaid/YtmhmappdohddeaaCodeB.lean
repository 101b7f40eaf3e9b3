/- What the program's code.Encode answers, plainly: the bytes of a whole program, and the error where it may not be written. -/
import Derived.Test.YtmhmappdohddeaaCodeA
import Derived.Test.YtmhmappdohddeaaHcodeEncode
namespace Go.Proofs.Ytmhmappdohddeaa.CodeB
open Go.RowKit Go.Proofs.YtmhmappdohddeaaW.PrintWords Go.Proofs.Ytmhmappdohddeaa.H Go.Proofs.Ytmhmappdohddeaa.CodeA
set_option linter.unusedVariables false
set_option linter.unusedSimpArgs false

/-- A text's bytes, with its length ahead. -/
def txt (s : ByteArray) : List Int := put s.size ++ bytesOf s
/-- An instruction's bytes. -/
def ins (x : S41) : List Int := x.f0 :: ((if hasA x.f0 then put x.f1.toNat else []) ++ (if hasB x.f0 then put x.f2.toNat else []))
/-- A program's bytes, whole. -/
def enc (kd : Int) (ts : List ByteArray) (xs : List S41) (st : Int) : List Int :=
  [86, 80, kd] ++ put st.toNat ++ put ts.length ++ ts.flatMap txt ++ put xs.length ++ xs.flatMap ins

theorem ins_length (x : S41) (h1 : x.f1 ≤ 2147483647) (h2 : x.f2 ≤ 2147483647) : (ins x).length ≤ 11 := by
  unfold ins
  have p1 := put_length5 x.f1.toNat (by omega)
  have p2 := put_length5 x.f2.toNat (by omega)
  rw [List.length_cons, List.length_append]
  split <;> split <;> simp <;> omega

theorem inss_length : ∀ xs : List S41, (∀ x ∈ xs, x.f1 ≤ 2147483647 ∧ x.f2 ≤ 2147483647) → (xs.flatMap ins).length ≤ 11 * xs.length
  | [], _ => by simp
  | x :: r, h => by
    have h0 := h x (by simp)
    have h1 := ins_length x h0.1 h0.2
    have h2 := inss_length r (fun y hy => h y (by simp [hy]))
    simp only [List.flatMap_cons, List.length_append, List.length_cons]
    omega

theorem right_range {n : Int} {b : Bool} (h : right n b = true) : 0 ≤ n ∧ n ≤ 2147483647 := by
  unfold right at h
  simp only [Bool.or_eq_true, beq_iff_eq, Bool.and_eq_true, decide_eq_true_eq] at h
  omega
theorem right_zero {n : Int} {b : Bool} (h : right n b = true) (hb : b = false) : n = 0 := by
  unfold right at h
  subst hb
  simpa using h
theorem okI_parts {x : S41} (h : okI x = true) : 1 ≤ x.f0 ∧ x.f0 ≤ 38 ∧ right x.f1 (hasA x.f0) = true ∧ right x.f2 (hasB x.f0) = true := by
  unfold okI at h
  simp only [Bool.and_eq_true, decide_eq_true_eq] at h
  exact ⟨h.1.1.1, h.1.1.2, h.1.2, h.2⟩

/-- The code's loop. -/
theorem code_l1 (xs : List S41) (hx : ∀ x ∈ xs, okI x = true) (hn : xs.length ≤ 32768) (d : Nat) : ∀ (i : Nat) (b : List Int), i ≤ xs.length → xs.length - i = d → b.length + 11 * (xs.length - i) ≤ 70368744177664 →
    Ev (fun k => code_write.l1 k b xs (xs.length : Int) (i : Int)) (b ++ (xs.drop i).flatMap ins) := by
  induction d with
  | zero =>
    intro i b hi hd _
    have : i = xs.length := by omega
    subst this
    refine Ev.step (f := fun _ => some b) (fun k => ?_) (by simpa using Ev.now b)
    show (if _ then _ else _) = _
    rw [if_neg (by omega)]
  | succ d ih =>
    intro i b hi hd hb
    have hlt : i < xs.length := by omega
    have hr : rd_T41 xs (i : Int) = xs[i] := by
      unfold rd_T41
      rw [Int.toNat_natCast, List.getD_eq_getElem?_getD, List.getElem?_eq_getElem hlt]; rfl
    have hdrop : xs.drop i = xs[i] :: xs.drop (i + 1) := List.drop_eq_getElem_cons hlt
    obtain ⟨o1, o2, r1, r2⟩ := okI_parts (hx xs[i] (List.getElem_mem hlt))
    have q1 := right_range r1
    have q2 := right_range r2
    have hil := ins_length xs[i] (by omega) (by omega)
    have e1 : ((xs[i].f1.toNat : Nat) : Int) = xs[i].f1 := by omega
    have e2 : ((xs[i].f2.toNat : Nat) : Int) = xs[i].f2 := by omega
    have hj : ∀ c : List Int, c.length + (if hasB xs[i].f0 then put xs[i].f2.toNat else []).length + 11 * (xs.length - (i + 1)) ≤ 70368744177664 →
        Ev (fun k => code_write.j2 k c xs (xs.length : Int) (i : Int) xs[i].f0 xs[i].f1 xs[i].f2) (c ++ (if hasB xs[i].f0 then put xs[i].f2.toNat else []) ++ (xs.drop (i + 1)).flatMap ins) := by
      intro c hc
      have hstep : ∀ k, code_write.j2 (k + 1) c xs (xs.length : Int) (i : Int) xs[i].f0 xs[i].f1 xs[i].f2 = (code_of.f k xs[i].f0).bind fun t => if (Go.bits .and .u8 t 2) = 0 then (code_write.l1 k c xs (xs.length : Int) ((i + 1 : Nat) : Int)) else ((code_put.f k c xs[i].f2).bind fun t => (code_write.l1 k t xs (xs.length : Int) ((i + 1 : Nat) : Int))) := by
        intro k
        show (code_of.f k _).bind _ = _
        rw [wrap_succ (n := xs.length) (by omega) (by omega) (by omega)]
        rfl
      refine Ev.step hstep (Ev.bind (of_f _) ?_)
      cases hh : hasB xs[i].f0
      · have := (ofS_and2 xs[i].f0).2 hh
        simp only [this, if_true, Bool.false_eq_true, if_false, List.append_nil]
        exact ih (i + 1) c (by omega) (by omega) (by simp [hh] at hc; omega)
      · have h3 : ¬ Go.bits .and .u8 (ofS xs[i].f0) 2 = 0 := fun e => by have := (ofS_and2 xs[i].f0).1 e; rw [hh] at this; cases this
        simp only [h3, if_false, if_true]
        have hp5 := put_length5 xs[i].f2.toNat (by omega)
        have hcl : c.length ≤ 70368744177664 := by omega
        have hp := put_f xs[i].f2.toNat (by omega) c (by omega)
        rw [e2] at hp
        refine Ev.bind hp ?_
        exact ih (i + 1) _ (by omega) (by omega) (by simp [hh] at hc; simp; omega)
    have hstep : ∀ k, code_write.l1 (k + 1) b xs (xs.length : Int) (i : Int) = (code_of.f k xs[i].f0).bind fun t => if (Go.bits .and .u8 t 1) = 0 then (code_write.j2 k (b ++ [xs[i].f0]) xs (xs.length : Int) (i : Int) xs[i].f0 xs[i].f1 xs[i].f2) else ((code_put.f k (b ++ [xs[i].f0]) xs[i].f1).bind fun t => (code_write.j2 k t xs (xs.length : Int) (i : Int) xs[i].f0 xs[i].f1 xs[i].f2)) := by
      intro k
      show (if _ then _ else _) = _
      rw [if_pos (by omega), if_pos (by omega), if_pos (by omega), if_pos (by omega), hr]
      rfl
    refine Ev.step hstep (Ev.bind (of_f _) ?_)
    have hins : (xs[i] :: xs.drop (i + 1)).flatMap ins = xs[i].f0 :: ((if hasA xs[i].f0 then put xs[i].f1.toNat else []) ++ (if hasB xs[i].f0 then put xs[i].f2.toNat else [])) ++ (xs.drop (i + 1)).flatMap ins := by rw [List.flatMap_cons]; rfl
    rw [hdrop, hins]
    cases hh : hasA xs[i].f0
    · have := (ofS_and1 xs[i].f0).2 hh
      simp only [this, if_true, Bool.false_eq_true, if_false, List.nil_append]
      have hz := hj (b ++ [xs[i].f0]) (by
        have : (if hasB xs[i].f0 then put xs[i].f2.toNat else []).length ≤ 5 := by split; exact put_length5 _ (by omega); simp
        simp; omega)
      simpa [List.append_assoc] using hz
    · have h3 : ¬ Go.bits .and .u8 (ofS xs[i].f0) 1 = 0 := fun e => by have := (ofS_and1 xs[i].f0).1 e; rw [hh] at this; cases this
      simp only [h3, if_false, if_true]
      have hp5 := put_length5 xs[i].f1.toNat (by omega)
      have hp := put_f xs[i].f1.toNat (by omega) (b ++ [xs[i].f0]) (by simp; omega)
      rw [e1] at hp
      refine Ev.bind hp ?_
      have hz := hj (b ++ [xs[i].f0] ++ put xs[i].f1.toNat) (by
        have : (if hasB xs[i].f0 then put xs[i].f2.toNat else []).length ≤ 5 := by split; exact put_length5 _ (by omega); simp
        simp; omega)
      simpa [List.append_assoc] using hz

/-- What write answers: the bytes, where they are at most 2^20; else a list that is longer. -/
def Wrote (full r : List Int) : Prop := (full.length ≤ 1048576 → r = full) ∧ (1048576 < full.length → 1048576 < r.length)

theorem texts_l0 (kd st : Int) (ts : List ByteArray) (xs : List S41) (hx : ∀ x ∈ xs, okI x = true) (hn : xs.length ≤ 32768) (ht : ts.length ≤ 8192) (hs : ∀ s ∈ ts, s.size ≤ 140737488351232) (d : Nat) :
    ∀ (i : Nat) (b : List Int), i ≤ ts.length → ts.length - i = d → b.length ≤ 1048586 →
    ∃ r, Ev (fun k => code_write.l0 k b ts (ts.length : Int) (i : Int) kd ts xs st) r ∧ Wrote (b ++ (ts.drop i).flatMap txt ++ put xs.length ++ xs.flatMap ins) r := by
  have hxl := inss_length xs (fun x hx' => by obtain ⟨_, _, r1, r2⟩ := okI_parts (hx x hx'); exact ⟨(right_range r1).2, (right_range r2).2⟩)
  have hpl := put_length5 xs.length (by omega)
  induction d with
  | zero =>
    intro i b hi hd hb
    have : i = ts.length := by omega
    subst this
    refine ⟨b ++ put xs.length ++ xs.flatMap ins, ?_, ?_⟩
    · have hstep : ∀ k, code_write.l0 (k + 1) b ts (ts.length : Int) (ts.length : Int) kd ts xs st = (code_put.f k b (xs.length : Int)).bind fun t => (code_write.l1 k t xs (xs.length : Int) ((0 : Nat) : Int)) := by
        intro k
        show (if _ then _ else _) = _
        rw [if_neg (by omega)]
        rfl
      refine Ev.step hstep (Ev.bind (put_f xs.length (by omega) b (by omega)) ?_)
      have := code_l1 xs hx hn xs.length 0 (b ++ put xs.length) (by omega) (by omega) (by simp; omega)
      simpa using this
    · simp [Wrote]
  | succ d ih =>
    intro i b hi hd hb
    have hlt : i < ts.length := by omega
    have hr : rdOf ByteArray.empty ts (i : Int) = ts[i] := by
      unfold rdOf
      rw [Int.toNat_natCast, List.getD_eq_getElem?_getD, List.getElem?_eq_getElem hlt]; rfl
    have hdrop : ts.drop i = ts[i] :: ts.drop (i + 1) := List.drop_eq_getElem_cons hlt
    have hsz := hs ts[i] (List.getElem_mem hlt)
    have hw : wrap64 (1048576 - (b.length : Int)) = 1048576 - (b.length : Int) := by unfold wrap64; omega
    by_cases hbig : (ts[i].size : Int) > 1048576 - (b.length : Int)
    · refine ⟨List.replicate 1048577 0, ?_, ?_⟩
      · refine Ev.step (f := fun _ => some (List.replicate 1048577 0)) (fun k => ?_) (Ev.now _)
        show (if _ then _ else _) = _
        rw [if_pos (by omega), if_pos (by omega), if_pos (by omega), hr, hw, if_pos hbig, if_pos (by omega)]
      · have h1 := put_pos ts[i].size
        have : 1048576 < (b ++ (ts.drop i).flatMap txt ++ put xs.length ++ xs.flatMap ins).length := by
          rw [hdrop, List.flatMap_cons]
          simp only [List.length_append, txt, bytesOf_length]
          omega
        exact ⟨fun h => by omega, fun _ => by rw [List.length_replicate]; omega⟩
    · have hpl2 := put_length5 ts[i].size (by omega)
      have hstep : ∀ k, code_write.l0 (k + 1) b ts (ts.length : Int) (i : Int) kd ts xs st = (code_put.f k b (ts[i].size : Int)).bind fun t => (if t.length + ts[i].size < 140737488355328 then (code_write.l0 k (t ++ bytesOf ts[i]) ts (ts.length : Int) ((i + 1 : Nat) : Int) kd ts xs st) else none) := by
        intro k
        show (if _ then _ else _) = _
        rw [if_pos (by omega), if_pos (by omega), if_pos (by omega), hr, hw, if_neg hbig, wrap_succ (n := ts.length) (by omega) (by omega) (by omega)]
        rfl
      have hlen : (b ++ put ts[i].size).length + ts[i].size < 140737488355328 := by simp; omega
      -- what is written so far may be a little beyond the limit: then the next text, or the end, tells it
      rcases Nat.lt_or_ge 1048586 (b ++ put ts[i].size ++ bytesOf ts[i]).length with hov | hov
      · exfalso
        simp only [List.length_append, bytesOf_length] at hov
        omega
      obtain ⟨r, hr2, hw2⟩ := ih (i + 1) (b ++ put ts[i].size ++ bytesOf ts[i]) (by omega) (by omega) hov
      refine ⟨r, Ev.step hstep (Ev.bind (put_f ts[i].size (by omega) b (by omega)) ?_), ?_⟩
      · simp only [hlen, if_true]
        exact hr2
      · rw [hdrop, List.flatMap_cons]
        simpa [txt, List.append_assoc] using hw2

/-- code.write, as long as there are few texts and instructions. -/
theorem write_f (kd : Int) (ts : List ByteArray) (xs : List S41) (st : Int) (h0 : 0 ≤ st) (h1 : st ≤ 2147483647) (hx : ∀ x ∈ xs, okI x = true) (hn : xs.length ≤ 32768) (ht : ts.length ≤ 8192) (hs : ∀ s ∈ ts, s.size ≤ 140737488351232) :
    ∃ r, Ev (fun k => code_write.f k kd ts xs st) r ∧ Wrote (enc kd ts xs st) r := by
  have e1 : ((st.toNat : Nat) : Int) = st := by omega
  have p1 := put_length5 st.toNat (by omega)
  have p2 := put_length5 ts.length (by omega)
  obtain ⟨r, hr, hw⟩ := texts_l0 kd st ts xs hx hn ht hs ts.length 0 ([86, 80, kd] ++ put st.toNat ++ put ts.length) (by omega) (by omega) (by simp; omega)
  refine ⟨r, ?_, by simpa [enc, List.append_assoc] using hw⟩
  unfold code_write.f
  have a1 := put_f st.toNat (by omega) [86, 80, kd] (by simp)
  rw [e1] at a1
  refine Ev.bind a1 (Ev.bind (put_f ts.length (by omega) _ (by simp; omega)) ?_)
  simpa using hr

/-- May the program be written, but for its length in bytes? 3: too much of it, 210: something in it. -/
def may (kd : Int) (ts : List ByteArray) (xs : List S41) (st : Int) : Int :=
  if xs.length > 32768 ∨ ts.length > 8192 then 3 else if ¬ (kd = 1 ∨ kd = 2) ∨ right st true = false ∨ xs.any (fun x => !okI x) = true then 210 else 0
/-- code.Encode's answer. -/
def encode (kd : Int) (ts : List ByteArray) (xs : List S41) (st : Int) : List Int × Int :=
  if may kd ts xs st = 0 then (if (enc kd ts xs st).length > 1048576 then ([], 3) else (enc kd ts xs st, 0)) else ([], may kd ts xs st)

theorem any_ok {xs : List S41} (h : ¬ xs.any (fun x => !okI x) = true) : ∀ x ∈ xs, okI x = true := by
  intro x hx
  cases hb : okI x
  · exact absurd (List.any_eq_true.2 ⟨x, hx, by rw [hb]; rfl⟩) h
  · rfl

theorem encode_f (kd : Int) (ts : List ByteArray) (xs : List S41) (st : Int) (hs : ∀ s ∈ ts, s.size ≤ 140737488351232) (hxl : xs.length ≤ 9223372036854775807) : Ev (fun k => code_Encode.f k kd ts xs st) (encode kd ts xs st) := by
  have h0 : ∀ b : Bool, b = true → Ev (fun k => code_Encode.j0 k b kd ts xs st) (([] : List Int), (3 : Int)) := by
    intro b hb
    refine Ev.step (f := fun _ => some (([] : List Int), (3 : Int))) (fun k => ?_) (Ev.now _)
    simp only [code_Encode.j0, hb, if_true]
  have h2t : Ev (fun k => code_Encode.j2 k true kd ts xs st) (([] : List Int), (210 : Int)) := by
    refine Ev.step (f := fun _ => some (([] : List Int), (210 : Int))) (fun k => ?_) (Ev.now _)
    simp only [code_Encode.j2, if_true]
  have h1t : Ev (fun k => code_Encode.j1 k true kd ts xs st) (([] : List Int), (210 : Int)) := by
    refine Ev.step (fun k => ?_) h2t
    simp only [code_Encode.j1, if_true]
  unfold code_Encode.f encode may
  by_cases c1 : xs.length > 32768
  · simp only [c1, true_or, if_true]
    have : (xs.length : Int) > 32768 := by omega
    simp only [this, if_true]
    simpa using h0 _ (by simp)
  have c1' : ¬ (xs.length : Int) > 32768 := by omega
  simp only [c1', if_false, c1, false_or]
  by_cases c2 : ts.length > 8192
  · simp only [c2, if_true]
    have : (ts.length : Int) > 8192 := by omega
    simpa [this] using h0 _ (decide_eq_true this)
  have c2' : ¬ (ts.length : Int) > 8192 := by omega
  simp only [c2, if_false, c2', decide_false]
  have h1 : ∀ b : Bool, b = (decide (¬ (kd = 1 ∨ kd = 2))) → Ev (fun k => code_Encode.j1 k b kd ts xs st)
      (if (if ¬ (kd = 1 ∨ kd = 2) ∨ right st true = false ∨ xs.any (fun x => !okI x) = true then (210 : Int) else 0) = 0 then (if (enc kd ts xs st).length > 1048576 then (([] : List Int), (3 : Int)) else (enc kd ts xs st, 0)) else (([] : List Int), if ¬ (kd = 1 ∨ kd = 2) ∨ right st true = false ∨ xs.any (fun x => !okI x) = true then (210 : Int) else 0)) := by
    intro b hb
    by_cases c3 : kd = 1 ∨ kd = 2
    · have hbf : b = false := by rw [hb]; simp [c3]
      subst hbf
      have hstep : ∀ k, code_Encode.j1 (k + 1) false kd ts xs st = (code_right.f st true).bind fun t152 => (if t152 = true then ((api_Instr_24.f k xs).bind fun t153 => (code_Encode.j2 k t153 kd ts xs st)) else (code_Encode.j2 k (!t152) kd ts xs st)) := by
        intro k
        simp only [code_Encode.j1, Bool.false_eq_true, if_false]
      refine Ev.step hstep ?_
      simp only [right_f, Option.bind_some, c3, not_true, false_or]
      cases hr : right st true
      · simp only [Bool.false_eq_true, if_false, true_or, if_true, Bool.not_false]
        simpa using h2t
      · simp only [if_true, Bool.true_eq_false, false_or]
        refine Ev.bind (contains_f xs hxl) ?_
        cases ha : xs.any (fun x => !okI x)
        · simp only [Bool.false_eq_true, if_false, if_true]
          have hq := right_range hr
          obtain ⟨r, hw, hW⟩ := write_f kd ts xs st hq.1 hq.2 (any_ok (by simp [ha])) (by omega) (by omega) hs
          have hstep2 : ∀ k, code_Encode.j2 (k + 1) false kd ts xs st = (code_write.f k kd ts xs st).bind fun t154 => (if (t154.length : Int) > 1048576 then (some (([] : List Int), 3)) else (some (t154, 0))) := by
            intro k
            simp only [code_Encode.j2, Bool.false_eq_true, if_false]
          refine Ev.step hstep2 (Ev.bind hw ?_)
          by_cases hl : (enc kd ts xs st).length > 1048576
          · have := hW.2 hl
            have h' : (r.length : Int) > 1048576 := by omega
            simp only [h', if_true, hl]
            exact Ev.now _
          · have := hW.1 (by omega)
            subst this
            have h' : ¬ (((enc kd ts xs st).length : Nat) : Int) > 1048576 := by omega
            simp only [h', if_false, hl]
            exact Ev.now _
        · simp only [if_true]
          simpa using h2t
    · have hbt : b = true := by rw [hb]; simp [c3]
      subst hbt
      simp only [c3, not_false_eq_true, true_or, if_true]
      simpa using h1t
  by_cases c3 : kd = 1
  · refine Ev.step (fun k => ?_) (h1 false (by simp [c3]))
    simp only [code_Encode.j0, c3, Bool.false_eq_true, if_false, if_true]
  · refine Ev.step (fun k => ?_) (h1 (kd != 2) (by simp [c3, bne_iff_ne]; by_cases h : kd = 2 <;> simp [h]))
    simp only [code_Encode.j0, c3, Bool.false_eq_true, if_false]

end Go.Proofs.Ytmhmappdohddeaa.CodeB
