/- The document's own Check and Encode (vouchref21) answer just what code.Encode answers. -/
import Derived.Test.YtmhmappdohddeaaCodeC
import Derived.Test.YtmhmappdohddeaaHvouchref21Check
import Derived.Test.YtmhmappdohddeaaHvouchref21Encode
namespace Go.Proofs.Ytmhmappdohddeaa.CodeL
open Go.RowKit Go.Proofs.YtmhmappdohddeaaW.PrintWords Go.Proofs.Ytmhmappdohddeaa.H Go.Proofs.Ytmhmappdohddeaa.CodeA Go.Proofs.Ytmhmappdohddeaa.CodeB Go.Proofs.Ytmhmappdohddeaa.CodeC
set_option linter.unusedVariables false
set_option linter.unusedSimpArgs false

theorem rhasA_f (c : Int) : vouchref21_HasA.f c = some (hasA c) := by
  unfold vouchref21_HasA.f hasA ofS
  repeat' split
  all_goals first | rfl | (simp_all; done) | (congr 1; simp_all; done) | (exfalso; simp_all; done) | skip
theorem rhasB_f (c : Int) : vouchref21_HasB.f c = some (hasB c) := by
  unfold vouchref21_HasB.f hasB ofS
  congr 1
  repeat' split
  all_goals (first | (rename_i h; rcases h with h | h | h | h | h | h | h | h | h <;> subst h <;> rfl) | (rename_i h; subst h; rfl) | simp_all)
theorem fits_f (n : Int) : vouchref21_fits.f n = some (decide (0 ≤ n ∧ n ≤ 2147483647)) := by
  unfold vouchref21_fits.f
  by_cases h : n ≥ 0
  · have h' : 0 ≤ n := h
    simp [h, h']
  · have h' : ¬ 0 ≤ n := h
    simp [h, h']
theorem rinstr_f (x : S41) : vouchref21_instr.f x.f0 x.f1 x.f2 = some (okI x) := by
  unfold vouchref21_instr.f okI right
  simp only [fits_f, rhasA_f, rhasB_f, Option.bind_some]
  by_cases h1 : 1 ≤ x.f0
  · by_cases h2 : x.f0 ≤ 38
    · have h1' : x.f0 ≥ 1 := h1
      simp only [h1', h2, if_true]
      by_cases h3 : 0 ≤ x.f1 ∧ x.f1 ≤ 2147483647
      · by_cases h4 : 0 ≤ x.f2 ∧ x.f2 ≤ 2147483647
        · simp only [decide_eq_true h3, decide_eq_true h4, if_true, decide_eq_true h1, decide_eq_true h2, Bool.true_and]
          have a1 : (x.f1 == 0 || (hasA x.f0 && decide (0 < x.f1) && decide (x.f1 ≤ 2147483647))) = (hasA x.f0 || x.f1 == 0) := by
            cases hasA x.f0
            · simp
            · by_cases hz : x.f1 = 0
              · simp [hz]
              · have : 0 < x.f1 := by omega
                simp [hz, this, h3.2]
          have a2 : (x.f2 == 0 || (hasB x.f0 && decide (0 < x.f2) && decide (x.f2 ≤ 2147483647))) = (hasB x.f0 || x.f2 == 0) := by
            cases hasB x.f0
            · simp
            · by_cases hz : x.f2 = 0
              · simp [hz]
              · have : 0 < x.f2 := by omega
                simp [hz, this, h4.2]
          rw [a1, a2]
          cases hasA x.f0
          · by_cases hz : x.f1 = 0
            · cases hasB x.f0 <;> simp [hz]
            · simp [hz]
          · cases hasB x.f0 <;> simp
        · have h4' : ¬ (x.f2 == 0 || (hasB x.f0 && decide (0 < x.f2) && decide (x.f2 ≤ 2147483647))) = true := by
            intro h
            apply h4
            simp only [Bool.or_eq_true, beq_iff_eq, Bool.and_eq_true, decide_eq_true_eq] at h
            omega
          have h4b := Bool.eq_false_iff.2 h4'
          simp only [decide_eq_true h3, decide_eq_false h4, if_true, Bool.false_eq_true, if_false, h4b, Bool.and_false]
      · have h3' : ¬ (x.f1 == 0 || (hasA x.f0 && decide (0 < x.f1) && decide (x.f1 ≤ 2147483647))) = true := by
          intro h
          apply h3
          simp only [Bool.or_eq_true, beq_iff_eq, Bool.and_eq_true, decide_eq_true_eq] at h
          omega
        have h3b := Bool.eq_false_iff.2 h3'
        simp only [decide_eq_false h3, Bool.false_eq_true, if_false, h3b, Bool.and_false, Bool.false_and]
    · have h1' : x.f0 ≥ 1 := h1
      simp [h2]
  · have h1' : ¬ x.f0 ≥ 1 := h1
    simp [h1]

theorem div_w (n : Nat) (hn : n < 9223372036854775808) : wrap64 (Int.tdiv (n : Int) 128) = ((n / 128 : Nat) : Int) := by
  rw [Int.tdiv_eq_ediv_of_nonneg (by omega)]
  unfold wrap64
  omega
theorem size_l0 (n : Nat) : ∀ c : Nat, n < 9223372036854775808 → c + (put n).length ≤ 1000 → Ev (fun k => vouchref21_size.l0 k (n : Int) (c : Int)) ((c + (put n).length - 1 : Nat) : Int) := by
  induction n using Nat.strongRecOn with
  | _ n ih =>
    intro c hb hl
    by_cases hn : n < 128
    · rw [put_small hn] at hl ⊢
      refine Ev.step (f := fun _ => some (c : Int)) (fun k => ?_) ?_
      · show (if _ then _ else _) = _
        rw [if_neg (by omega)]
      · have := Ev.now (c : Int)
        simpa using this
    · rw [put_large hn] at hl ⊢
      rw [List.length_cons] at hl
      have hw : wrap64 ((c : Int) + 1) = ((c + 1 : Nat) : Int) := by unfold wrap64; omega
      have h1 := ih (n / 128) (by omega) (c + 1) (by omega) (by omega)
      have e : c + 1 + (put (n / 128)).length - 1 = c + (((n % 128 + 128 : Nat) : Int) :: put (n / 128)).length - 1 := by rw [List.length_cons]; omega
      rw [e] at h1
      refine Ev.step (fun k => ?_) h1
      show (if _ then _ else _) = _
      rw [if_pos (by omega), div_w n hb, hw]
theorem put_length9 (n : Nat) (h : n < 9223372036854775808) : (put n).length ≤ 9 := put_length 8 n (by omega)
theorem size_f (n : Nat) (hn : n < 9223372036854775808) : Ev (fun k => vouchref21_size.f k (n : Int)) ((put n).length : Int) := by
  have h := size_l0 n 1 hn (by have := put_length9 n hn; omega)
  have hp := put_pos n
  have e : 1 + (put n).length - 1 = (put n).length := by omega
  rw [e] at h
  exact h

theorem rput_l0 (n : Nat) : ∀ l : List Int, n < 9223372036854775808 → l.length + (put n).length ≤ 140737488355328 → Ev (fun k => vouchref21_put.l0 k l (n : Int)) (l ++ put n) := by
  induction n using Nat.strongRecOn with
  | _ n ih =>
    intro l hb hl
    by_cases hn : n < 128
    · rw [put_small hn] at hl ⊢
      simp only [List.length_singleton] at hl
      refine Ev.step (f := fun _ => some (l ++ [(n : Int)])) (fun k => ?_) (Ev.now _)
      show (if _ then _ else _) = _
      rw [if_neg (by omega), if_pos (by omega)]
      congr 4
      omega
    · rw [put_large hn] at hl ⊢
      rw [List.length_cons] at hl
      have h1 := ih (n / 128) (by omega) (l ++ [((n % 128 + 128 : Nat) : Int)]) (by omega) (by simp; omega)
      rw [List.append_assoc] at h1
      have hv : (wrap64 ((Int.tmod (n : Int) 128) + 128)) % 256 = ((n % 128 + 128 : Nat) : Int) := by
        rw [Int.tmod_eq_emod_of_nonneg (by omega)]
        unfold wrap64
        omega
      refine Ev.step (fun k => ?_) h1
      show (if _ then _ else _) = _
      rw [if_pos (by omega), if_pos (by omega), hv, div_w n hb]
theorem rput_f (n : Nat) (hn : n < 9223372036854775808) (l : List Int) (hl : l.length + 9 ≤ 140737488355328) : Ev (fun k => vouchref21_put.f k l (n : Int)) (l ++ put n) :=
  rput_l0 n l hn (by have := put_length9 n hn; omega)

/-! ### Check -/
def fin3 (n : Nat) : Int := if n > 1048576 then 3 else 0
theorem txt_length (s : ByteArray) : (txt s).length = (put s.size).length + s.size := by
  unfold txt
  rw [List.length_append]
  congr 1
  unfold bytesOf
  rw [List.length_map, Array.length_toList]
  rfl
theorem rchk_l1 (kd st : Int) (ts : List ByteArray) (xs : List S41) (ht : ts.length ≤ 8192) (hs : ∀ s ∈ ts, s.size ≤ 140737488351232) (d : Nat) : ∀ (i n : Nat), i ≤ ts.length → ts.length - i = d → n ≤ 150000000000000 →
    Ev (fun k => vouchref21_Check.l1 k (n : Int) (i : Int) kd ts xs st) (fin3 (n + ((ts.drop i).flatMap txt).length)) := by
  induction d with
  | zero =>
    intro i n hi hd hn
    have : i = ts.length := by omega
    subst this
    refine Ev.step (f := fun _ => some (fin3 n)) (fun k => ?_) (by simpa using Ev.now (fin3 n))
    show (if _ then _ else _) = _
    rw [if_neg (by omega)]
    unfold fin3
    by_cases h : n > 1048576
    · rw [if_pos h, if_pos (by omega)]
    · rw [if_neg h, if_neg (by omega)]
  | succ d ih =>
    intro i n hi hd hn
    have hlt : i < ts.length := by omega
    have hr : rdOf ByteArray.empty ts (i : Int) = ts[i] := by
      unfold rdOf
      rw [Int.toNat_natCast, List.getD_eq_getElem?_getD, List.getElem?_eq_getElem hlt]; rfl
    have hdrop : ts.drop i = ts[i] :: ts.drop (i + 1) := List.drop_eq_getElem_cons hlt
    have hsz := hs ts[i] (List.getElem_mem hlt)
    have h9 := put_length9 ts[i].size (by omega)
    have htx := txt_length ts[i]
    rw [hdrop, List.flatMap_cons, List.length_append]
    by_cases h : n ≤ 1048576
    · have hstep : ∀ k, vouchref21_Check.l1 (k + 1) (n : Int) (i : Int) kd ts xs st = (vouchref21_size.f k ((ts[i].size : Nat) : Int)).bind fun t115 => (vouchref21_Check.l1 k (wrap64 ((wrap64 ((n : Int) + t115)) + (ts[i].size : Int))) ((i + 1 : Nat) : Int) kd ts xs st) := by
        intro k
        show (if _ then _ else _) = _
        rw [if_pos (by omega), if_pos (by omega), if_pos (by omega), hr, wrap_succ (n := ts.length) (by omega) (by omega) (by omega)]
        rfl
      refine Ev.step hstep (Ev.bind (size_f ts[i].size (by omega)) ?_)
      have hw : Aside0 (wrap64 ((wrap64 ((n : Int) + ((put ts[i].size).length : Int))) + (ts[i].size : Int)) = ((n + (txt ts[i]).length : Nat) : Int)) := Aside0.mk <| by
        rw [htx]
        clear ih hstep hr hdrop htx hd hi
        unfold wrap64
        omega
      rw [hw.out]
      have := ih (i + 1) (n + (txt ts[i]).length) (by omega) (by omega) (by omega)
      rw [Nat.add_assoc] at this
      exact this
    · refine Ev.step (f := fun _ => some 3) (fun k => ?_) ?_
      · show (if _ then _ else _) = _
        rw [if_pos (by omega), if_neg (by omega), if_pos (by omega)]
      · have : fin3 (n + ((txt ts[i]).length + ((ts.drop (i + 1)).flatMap txt).length)) = 3 := by unfold fin3; rw [if_pos (by omega)]
        rw [this]
        exact Ev.now _

theorem ins_len (x : S41) : (ins x).length = 1 + ((if hasA x.f0 then (put x.f1.toNat).length else 0) + (if hasB x.f0 then (put x.f2.toNat).length else 0)) := by
  unfold ins
  rw [List.length_cons, List.length_append]
  cases hasA x.f0 <;> cases hasB x.f0 <;> simp <;> omega

theorem rchk_l0 (kd st : Int) (ts : List ByteArray) (xs : List S41) (hxn : xs.length ≤ 32768) (ht : ts.length ≤ 8192) (hs : ∀ s ∈ ts, s.size ≤ 140737488351232) (d : Nat) : ∀ (i n : Nat), i ≤ xs.length → xs.length - i = d → n + 11 * (xs.length - i) ≤ 100000000 →
    Ev (fun k => vouchref21_Check.l0 k (n : Int) (i : Int) kd ts xs st) (if (xs.drop i).any (fun x => !okI x) then 210 else fin3 (n + ((xs.drop i).flatMap ins).length + (ts.flatMap txt).length)) := by
  induction d with
  | zero =>
    intro i n hi hd hn
    have : i = xs.length := by omega
    subst this
    have h := rchk_l1 kd st ts xs ht hs ts.length 0 n (by omega) (by omega) (by omega)
    rw [List.drop_length]
    refine Ev.step (fun k => ?_) (by simpa using h)
    have c1 : ¬ ((xs.length : Int) < (xs.length : Int)) := by omega
    simp only [vouchref21_Check.l0, c1, if_false]
  | succ d ih =>
    intro i n hi hd hn
    have hlt : i < xs.length := by omega
    have hwi : Aside0 (wrap64 ((i : Int) + 1) = ((i + 1 : Nat) : Int)) := Aside0.mk <| by rw [wrap_succ (n := xs.length) (by omega) (by omega) (by omega)]; rfl
    have c1 : (i : Int) < (xs.length : Int) := by omega
    have c2 : (0 : Int) ≤ (i : Int) := by omega
    have hr : rd_T41 xs (i : Int) = xs[i] := by
      unfold rd_T41
      rw [Int.toNat_natCast, List.getD_eq_getElem?_getD, List.getElem?_eq_getElem hlt]; rfl
    have hdrop : xs.drop i = xs[i] :: xs.drop (i + 1) := List.drop_eq_getElem_cons hlt
    rw [hdrop, List.any_cons, List.flatMap_cons, List.length_append]
    cases hok : okI xs[i] with
    | false =>
      simp only [Bool.not_false, Bool.true_or, if_true]
      refine Ev.step (f := fun _ => some 210) (fun k => ?_) (Ev.now _)
      simp only [vouchref21_Check.l0, c1, c2, if_true, hr, rinstr_f, hok, Option.bind_some, Bool.false_eq_true, if_false]
    | true =>
      simp only [Bool.not_true, Bool.false_or]
      obtain ⟨o1, o2, r1, r2⟩ := okI_parts hok
      have q1 := right_range r1
      have q2 := right_range r2
      have e1 : ((xs[i].f1.toNat : Nat) : Int) = xs[i].f1 := by omega
      have e2 : ((xs[i].f2.toNat : Nat) : Int) = xs[i].f2 := by omega
      have p1 := put_length5 xs[i].f1.toNat (by omega)
      have p2 := put_length5 xs[i].f2.toNat (by omega)
      have hil := ins_len xs[i]
      have hj : ∀ m : Nat, m + 5 + 11 * (xs.length - (i + 1)) ≤ 100000000 → Ev (fun k => vouchref21_Check.j3 k (m : Int) (i : Int) kd ts xs st xs[i].f0 xs[i].f1 xs[i].f2)
          (if (xs.drop (i + 1)).any (fun x => !okI x) then 210 else fin3 (m + (if hasB xs[i].f0 then (put xs[i].f2.toNat).length else 0) + ((xs.drop (i + 1)).flatMap ins).length + (ts.flatMap txt).length)) := by
        intro m hm
        cases hh : hasB xs[i].f0
        · have hstep : ∀ k, vouchref21_Check.j3 (k + 1) (m : Int) (i : Int) kd ts xs st xs[i].f0 xs[i].f1 xs[i].f2 = vouchref21_Check.l0 k (m : Int) ((i + 1 : Nat) : Int) kd ts xs st := by
            intro k
            simp only [vouchref21_Check.j3, rhasB_f, hh, Option.bind_some, Bool.false_eq_true, if_false, hwi.out]
          refine Ev.step hstep ?_
          have := ih (i + 1) m (by omega) (by omega) (by omega)
          simpa using this
        · have hstep : ∀ k, vouchref21_Check.j3 (k + 1) (m : Int) (i : Int) kd ts xs st xs[i].f0 xs[i].f1 xs[i].f2 = (vouchref21_size.f k xs[i].f2).bind fun t113 => vouchref21_Check.l0 k (wrap64 ((m : Int) + t113)) ((i + 1 : Nat) : Int) kd ts xs st := by
            intro k
            simp only [vouchref21_Check.j3, rhasB_f, hh, Option.bind_some, if_true, hwi.out]
          have hz := size_f xs[i].f2.toNat (by omega)
          rw [e2] at hz
          refine Ev.step hstep (Ev.bind hz ?_)
          have hw : Aside0 (wrap64 ((m : Int) + ((put xs[i].f2.toNat).length : Int)) = ((m + (put xs[i].f2.toNat).length : Nat) : Int)) := Aside0.mk <| by
            clear ih hstep hr hdrop hil hd hi e1 e2 q1 q2
            unfold wrap64
            omega
          rw [hw.out]
          have := ih (i + 1) (m + (put xs[i].f2.toNat).length) (by omega) (by omega) (by omega)
          simpa using this
      have hstep0 : ∀ k, vouchref21_Check.l0 (k + 1) (n : Int) (i : Int) kd ts xs st = (if hasA xs[i].f0 = true then ((vouchref21_size.f k xs[i].f1).bind fun t111 => (vouchref21_Check.j3 k (wrap64 ((wrap64 ((n : Int) + 1)) + t111)) (i : Int) kd ts xs st xs[i].f0 xs[i].f1 xs[i].f2)) else (vouchref21_Check.j3 k (wrap64 ((n : Int) + 1)) (i : Int) kd ts xs st xs[i].f0 xs[i].f1 xs[i].f2)) := by
        intro k
        simp only [vouchref21_Check.l0, c1, c2, if_true, hr, rinstr_f, hok, Option.bind_some, rhasA_f]
      have hw1 : Aside0 (wrap64 ((n : Int) + 1) = ((n + 1 : Nat) : Int)) := Aside0.mk <| by
        clear ih hj hstep0 hr hdrop hil hd hi e1 e2 q1 q2
        unfold wrap64
        omega
      cases hh : hasA xs[i].f0
      · simp only [hh, Bool.false_eq_true, if_false, hw1.out] at hstep0
        refine Ev.step hstep0 ?_
        have := hj (n + 1) (by omega)
        have e : n + 1 + (if hasB xs[i].f0 then (put xs[i].f2.toNat).length else 0) + ((xs.drop (i + 1)).flatMap ins).length + (ts.flatMap txt).length = n + ((ins xs[i]).length + ((xs.drop (i + 1)).flatMap ins).length) + (ts.flatMap txt).length := by
          rw [hil, hh]
          simp only [Bool.false_eq_true, if_false]
          omega
        rw [e] at this
        exact this
      · simp only [hh, if_true, hw1.out] at hstep0
        have hz := size_f xs[i].f1.toNat (by omega)
        rw [e1] at hz
        refine Ev.step hstep0 (Ev.bind hz ?_)
        have hw : Aside0 (wrap64 (((n + 1 : Nat) : Int) + ((put xs[i].f1.toNat).length : Int)) = ((n + 1 + (put xs[i].f1.toNat).length : Nat) : Int)) := Aside0.mk <| by
          clear ih hj hstep0 hr hdrop hil hd hi e1 e2 q1 q2 hw1
          unfold wrap64
          omega
        rw [hw.out]
        have := hj (n + 1 + (put xs[i].f1.toNat).length) (by omega)
        have e : n + 1 + (put xs[i].f1.toNat).length + (if hasB xs[i].f0 then (put xs[i].f2.toNat).length else 0) + ((xs.drop (i + 1)).flatMap ins).length + (ts.flatMap txt).length = n + ((ins xs[i]).length + ((xs.drop (i + 1)).flatMap ins).length) + (ts.flatMap txt).length := by
          rw [hil, hh]
          simp only [if_true]
          omega
        rw [e] at this
        exact this

theorem enc_length (kd : Int) (ts : List ByteArray) (xs : List S41) (st : Int) : (enc kd ts xs st).length = 3 + (put st.toNat).length + (put ts.length).length + (put xs.length).length + (xs.flatMap ins).length + (ts.flatMap txt).length := by
  unfold enc
  simp only [List.length_append, List.length_cons, List.length_nil]
  omega

theorem rcheck_f (kd : Int) (ts : List ByteArray) (xs : List S41) (st : Int) (hs : ∀ s ∈ ts, s.size ≤ 140737488351232) : Ev (fun k => vouchref21_Check.f k kd ts xs st) (encode kd ts xs st).2 := by
  have hjt : Ev (fun k => vouchref21_Check.j0 k true kd ts xs st) 3 := by
    refine Ev.step (f := fun _ => some 3) (fun k => ?_) (Ev.now _)
    simp only [vouchref21_Check.j0, if_true]
  have hj1t : Ev (fun k => vouchref21_Check.j1 k true kd ts xs st) 210 := by
    refine Ev.step (f := fun _ => some 210) (fun k => ?_) (Ev.now _)
    simp only [vouchref21_Check.j1, if_true]
  unfold vouchref21_Check.f
  by_cases h1 : xs.length > 32768
  · have h1' : (xs.length : Int) > 32768 := by omega
    have hm : may kd ts xs st = 3 := by unfold may; rw [if_pos (.inl h1)]
    have he : (encode kd ts xs st).2 = 3 := by unfold encode; rw [hm, if_neg (by decide)]
    simp only [h1', if_true, he]
    exact hjt
  have h1' : ¬ (xs.length : Int) > 32768 := by omega
  simp only [h1', if_false]
  by_cases h2 : ts.length > 8192
  · have h2' : (ts.length : Int) > 8192 := by omega
    have hm : may kd ts xs st = 3 := by unfold may; rw [if_pos (.inr h2)]
    have he : (encode kd ts xs st).2 = 3 := by unfold encode; rw [hm, if_neg (by decide)]
    rw [decide_eq_true h2', he]
    exact hjt
  have h2' : ¬ (ts.length : Int) > 8192 := by omega
  rw [decide_eq_false h2']
  have hmay : may kd ts xs st = if ¬ (kd = 1 ∨ kd = 2) ∨ right st true = false ∨ xs.any (fun x => !okI x) = true then 210 else 0 := by
    unfold may
    rw [if_neg (by rintro (h | h) <;> omega)]
  have hfr : decide (0 ≤ st ∧ st ≤ 2147483647) = right st true := by
    unfold right
    by_cases hz : st = 0
    · subst hz; rfl
    · by_cases h : 0 ≤ st ∧ st ≤ 2147483647
      · have : 0 < st := by omega
        simp [h, this, hz]
      · rw [decide_eq_false h]
        symm
        simp only [Bool.or_eq_false_iff, beq_eq_false_iff_ne, Bool.true_and, Bool.and_eq_false_iff, decide_eq_false_iff_not]
        exact ⟨hz, by omega⟩
  have h210 : ∀ c : Int, may kd ts xs st = c → c ≠ 0 → (encode kd ts xs st).2 = c := by
    intro c hc hne
    unfold encode
    rw [hc, if_neg hne]
  have hj1 : kd = 1 ∨ kd = 2 → Ev (fun k => vouchref21_Check.j1 k (!decide (0 ≤ st ∧ st ≤ 2147483647)) kd ts xs st) (encode kd ts xs st).2 := by
    intro hk
    rw [hfr]
    cases hr : right st true with
    | false =>
      have : (encode kd ts xs st).2 = 210 := h210 210 (by rw [hmay, if_pos (.inr (.inl hr))]) (by decide)
      rw [this]
      exact hj1t
    | true =>
      have q := right_range hr
      have e0 : ((st.toNat : Nat) : Int) = st := by omega
      have s1 := size_f st.toNat (by omega)
      rw [e0] at s1
      have s2 := size_f ts.length (by omega)
      have s3 := size_f xs.length (by omega)
      have l1 := put_length9 st.toNat (by omega)
      have l2 := put_length9 ts.length (by omega)
      have l3 := put_length9 xs.length (by omega)
      have hstep : ∀ k, vouchref21_Check.j1 (k + 1) (!true) kd ts xs st = ((vouchref21_size.f k st).bind fun t104 => ((vouchref21_size.f k (ts.length : Int)).bind fun t105 => ((vouchref21_size.f k (xs.length : Int)).bind fun t106 => (vouchref21_Check.l0 k (wrap64 ((wrap64 ((wrap64 (3 + t104)) + t105)) + t106)) 0 kd ts xs st)))) := by
        intro k
        simp only [vouchref21_Check.j1, Bool.not_true, Bool.false_eq_true, if_false]
      refine Ev.step hstep (Ev.bind s1 (Ev.bind s2 (Ev.bind s3 ?_)))
      have hw : Aside0 (wrap64 ((wrap64 ((wrap64 (3 + ((put st.toNat).length : Int))) + ((put ts.length).length : Int))) + ((put xs.length).length : Int)) = ((3 + (put st.toNat).length + (put ts.length).length + (put xs.length).length : Nat) : Int)) := Aside0.mk <| by
        clear s1 s2 s3 hmay h210 hstep q e0 hfr
        unfold wrap64
        omega
      rw [hw.out]
      have := rchk_l0 kd st ts xs (by omega) (by omega) hs xs.length 0 (3 + (put st.toNat).length + (put ts.length).length + (put xs.length).length) (by omega) (by omega) (by omega)
      rw [List.drop_zero] at this
      have hres : (encode kd ts xs st).2 = (if xs.any (fun x => !okI x) then 210 else fin3 (3 + (put st.toNat).length + (put ts.length).length + (put xs.length).length + (xs.flatMap ins).length + (ts.flatMap txt).length)) := by
        cases ha : xs.any (fun x => !okI x) with
        | true =>
          simp only [if_true]
          exact h210 210 (by rw [hmay, if_pos (.inr (.inr ha))]) (by decide)
        | false =>
          simp only [Bool.false_eq_true, if_false]
          have hm0 : may kd ts xs st = 0 := by
            rw [hmay, if_neg]
            rintro (h | h | h)
            · exact h hk
            · rw [hr] at h; cases h
            · rw [ha] at h; cases h
          unfold encode fin3
          rw [if_pos hm0, ← enc_length kd ts xs st]
          by_cases hl : (enc kd ts xs st).length > 1048576
          · rw [if_pos hl, if_pos hl]
          · rw [if_neg hl, if_neg hl]
      rw [hres]
      exact this
  by_cases k1 : kd = 1
  · have hs1 : ∀ k, vouchref21_Check.j0 (k + 1) false kd ts xs st = vouchref21_Check.j1 k (!decide (0 ≤ st ∧ st ≤ 2147483647)) kd ts xs st := by
      intro k
      simp only [vouchref21_Check.j0, Bool.false_eq_true, if_false, k1, if_true, fits_f, Option.bind_some]
    exact Ev.step hs1 (hj1 (.inl k1))
  · by_cases k2 : kd = 2
    · have hs1 : ∀ k, vouchref21_Check.j0 (k + 1) false kd ts xs st = vouchref21_Check.j1 k (!decide (0 ≤ st ∧ st ≤ 2147483647)) kd ts xs st := by
        intro k
        have : ¬ (2 : Int) = 1 := by decide
        simp only [vouchref21_Check.j0, Bool.false_eq_true, if_false, k2, this, if_true, fits_f, Option.bind_some]
      exact Ev.step hs1 (hj1 (.inr k2))
    · have hs1 : ∀ k, vouchref21_Check.j0 (k + 1) false kd ts xs st = vouchref21_Check.j1 k true kd ts xs st := by
        intro k
        simp only [vouchref21_Check.j0, Bool.false_eq_true, if_false, k1, k2]
      have : (encode kd ts xs st).2 = 210 := h210 210 (by rw [hmay, if_pos (.inl (by rintro (h | h); exact k1 h; exact k2 h))]) (by decide)
      rw [this]
      exact Ev.step hs1 hj1t
end Go.Proofs.Ytmhmappdohddeaa.CodeL
