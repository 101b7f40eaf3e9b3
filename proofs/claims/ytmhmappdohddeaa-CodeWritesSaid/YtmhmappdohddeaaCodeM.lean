/- The document's own Encode (vouchref21) answers what code.Encode answers. -/
import Derived.Test.YtmhmappdohddeaaCodeL
namespace Go.Proofs.Ytmhmappdohddeaa.CodeM
open Go.RowKit Go.Proofs.YtmhmappdohddeaaW.PrintWords Go.Proofs.Ytmhmappdohddeaa.H Go.Proofs.Ytmhmappdohddeaa.CodeA Go.Proofs.Ytmhmappdohddeaa.CodeB Go.Proofs.Ytmhmappdohddeaa.CodeC Go.Proofs.Ytmhmappdohddeaa.CodeL
set_option linter.unusedVariables false
set_option linter.unusedSimpArgs false

theorem renc_l1 (kd st : Int) (ts : List ByteArray) (xs : List S41) (hx : ∀ x ∈ xs, okI x = true) (hn : xs.length ≤ 32768) (d : Nat) : ∀ (i : Nat) (b : List Int), i ≤ xs.length → xs.length - i = d → b.length + 11 * (xs.length - i) ≤ 70368744177664 →
    Ev (fun k => vouchref21_Encode.l1 k b (i : Int) kd ts xs st) (b ++ (xs.drop i).flatMap ins, 0) := by
  induction d with
  | zero =>
    intro i b hi hd _
    have : i = xs.length := by omega
    subst this
    have c1 : ¬ ((xs.length : Int) < (xs.length : Int)) := by omega
    refine Ev.step (f := fun _ => some (b, 0)) (fun k => ?_) (by simpa using Ev.now (b, (0 : Int)))
    simp only [vouchref21_Encode.l1, c1, if_false]
  | succ d ih =>
    intro i b hi hd hb
    have hlt : i < xs.length := by omega
    have c1 : (i : Int) < (xs.length : Int) := by omega
    have c2 : (0 : Int) ≤ (i : Int) := by omega
    have c3 : b.length < 140737488355328 := by omega
    have hwi : Aside0 (wrap64 ((i : Int) + 1) = ((i + 1 : Nat) : Int)) := Aside0.mk <| by rw [wrap_succ (n := xs.length) (by omega) (by omega) (by omega)]; rfl
    have hr : rd_T41 xs (i : Int) = xs[i] := by
      unfold rd_T41
      rw [Int.toNat_natCast, List.getD_eq_getElem?_getD, List.getElem?_eq_getElem hlt]; rfl
    have hdrop : xs.drop i = xs[i] :: xs.drop (i + 1) := List.drop_eq_getElem_cons hlt
    obtain ⟨o1, o2, r1, r2⟩ := okI_parts (hx xs[i] (List.getElem_mem hlt))
    have q1 := right_range r1
    have q2 := right_range r2
    have hil := ins_length xs[i] (by omega) (by omega)
    have e1 : ((xs[i].f1.toNat : Nat) : Int) = xs[i].f1 := by omega
    have e2 : ((xs[i].f2.toNat : Nat) : Int) = xs[i].f2 := by omega
    have p1 := put_length5 xs[i].f1.toNat (by omega)
    have p2 := put_length5 xs[i].f2.toNat (by omega)
    have hj : ∀ c : List Int, c.length + 5 + 11 * (xs.length - (i + 1)) ≤ 70368744177664 →
        Ev (fun k => vouchref21_Encode.j2 k c (i : Int) kd ts xs st xs[i].f0 xs[i].f1 xs[i].f2) (c ++ (if hasB xs[i].f0 then put xs[i].f2.toNat else []) ++ (xs.drop (i + 1)).flatMap ins, 0) := by
      intro c hc
      cases hh : hasB xs[i].f0
      · have hstep : ∀ k, vouchref21_Encode.j2 (k + 1) c (i : Int) kd ts xs st xs[i].f0 xs[i].f1 xs[i].f2 = vouchref21_Encode.l1 k c ((i + 1 : Nat) : Int) kd ts xs st := by
          intro k
          simp only [vouchref21_Encode.j2, rhasB_f, hh, Option.bind_some, Bool.false_eq_true, if_false, hwi.out]
        refine Ev.step hstep ?_
        have := ih (i + 1) c (by omega) (by omega) (by omega)
        simpa using this
      · have hstep : ∀ k, vouchref21_Encode.j2 (k + 1) c (i : Int) kd ts xs st xs[i].f0 xs[i].f1 xs[i].f2 = (vouchref21_put.f k c xs[i].f2).bind fun t133 => vouchref21_Encode.l1 k t133 ((i + 1 : Nat) : Int) kd ts xs st := by
          intro k
          simp only [vouchref21_Encode.j2, rhasB_f, hh, Option.bind_some, if_true, hwi.out]
        have hz := rput_f xs[i].f2.toNat (by omega) c (by omega)
        rw [e2] at hz
        refine Ev.step hstep (Ev.bind hz ?_)
        have := ih (i + 1) (c ++ put xs[i].f2.toNat) (by omega) (by omega) (by rw [List.length_append]; omega)
        simpa using this
    have hins : b ++ (ins xs[i] ++ (xs.drop (i + 1)).flatMap ins) = b ++ [xs[i].f0] ++ (if hasA xs[i].f0 then put xs[i].f1.toNat else []) ++ (if hasB xs[i].f0 then put xs[i].f2.toNat else []) ++ (xs.drop (i + 1)).flatMap ins := by
      unfold ins
      simp only [List.append_assoc, List.cons_append, List.nil_append]
    rw [hdrop, List.flatMap_cons, hins]
    cases hh : hasA xs[i].f0
    · have hstep : ∀ k, vouchref21_Encode.l1 (k + 1) b (i : Int) kd ts xs st = vouchref21_Encode.j2 k (b ++ [xs[i].f0]) (i : Int) kd ts xs st xs[i].f0 xs[i].f1 xs[i].f2 := by
        intro k
        simp only [vouchref21_Encode.l1, c1, c2, c3, if_true, hr, rhasA_f, hh, Option.bind_some, Bool.false_eq_true, if_false]
      refine Ev.step hstep ?_
      have := hj (b ++ [xs[i].f0]) (by rw [List.length_append, List.length_singleton]; omega)
      simpa using this
    · have hstep : ∀ k, vouchref21_Encode.l1 (k + 1) b (i : Int) kd ts xs st = (vouchref21_put.f k (b ++ [xs[i].f0]) xs[i].f1).bind fun t129 => vouchref21_Encode.j2 k t129 (i : Int) kd ts xs st xs[i].f0 xs[i].f1 xs[i].f2 := by
        intro k
        simp only [vouchref21_Encode.l1, c1, c2, c3, if_true, hr, rhasA_f, hh, Option.bind_some]
      have hz := rput_f xs[i].f1.toNat (by omega) (b ++ [xs[i].f0]) (by rw [List.length_append, List.length_singleton]; omega)
      rw [e1] at hz
      refine Ev.step hstep (Ev.bind hz ?_)
      have := hj (b ++ [xs[i].f0] ++ put xs[i].f1.toNat) (by rw [List.length_append, List.length_append, List.length_singleton]; omega)
      simpa using this

theorem renc_l0 (kd st : Int) (ts : List ByteArray) (xs : List S41) (hx : ∀ x ∈ xs, okI x = true) (hn : xs.length ≤ 32768) (ht : ts.length ≤ 8192) (d : Nat) : ∀ (i : Nat) (b : List Int), i ≤ ts.length → ts.length - i = d → b.length + ((ts.drop i).flatMap txt).length ≤ 2000000 →
    Ev (fun k => vouchref21_Encode.l0 k b (i : Int) kd ts xs st) (b ++ (ts.drop i).flatMap txt ++ put xs.length ++ xs.flatMap ins, 0) := by
  induction d with
  | zero =>
    intro i b hi hd hb
    have : i = ts.length := by omega
    subst this
    have c1 : ¬ ((ts.length : Int) < (ts.length : Int)) := by omega
    rw [List.drop_length] at hb ⊢
    have hb' : b.length ≤ 2000000 := by simpa using hb
    have p := put_length9 xs.length (by omega)
    have hz := rput_f xs.length (by omega) b (by omega)
    have hstep : ∀ k, vouchref21_Encode.l0 (k + 1) b (ts.length : Int) kd ts xs st = (vouchref21_put.f k b (xs.length : Int)).bind fun t120 => vouchref21_Encode.l1 k t120 0 kd ts xs st := by
      intro k
      simp only [vouchref21_Encode.l0, c1, if_false]
    refine Ev.step hstep (Ev.bind hz ?_)
    have := renc_l1 kd st ts xs hx hn xs.length 0 (b ++ put xs.length) (by omega) (by omega) (by rw [List.length_append]; omega)
    simpa using this
  | succ d ih =>
    intro i b hi hd hb
    have hlt : i < ts.length := by omega
    have c1 : (i : Int) < (ts.length : Int) := by omega
    have c2 : (0 : Int) ≤ (i : Int) := by omega
    have hwi : Aside0 (wrap64 ((i : Int) + 1) = ((i + 1 : Nat) : Int)) := Aside0.mk <| by rw [wrap_succ (n := ts.length) (by omega) (by omega) (by omega)]; rfl
    have hr : rdOf ByteArray.empty ts (i : Int) = ts[i] := by
      unfold rdOf
      rw [Int.toNat_natCast, List.getD_eq_getElem?_getD, List.getElem?_eq_getElem hlt]; rfl
    have hdrop : ts.drop i = ts[i] :: ts.drop (i + 1) := List.drop_eq_getElem_cons hlt
    have htx := txt_length ts[i]
    rw [hdrop, List.flatMap_cons, List.length_append] at hb
    have hz := rput_f ts[i].size (by omega) b (by omega)
    have c3 : (b ++ put ts[i].size).length + ts[i].size < 140737488355328 := by rw [List.length_append]; omega
    have hstep : ∀ k, vouchref21_Encode.l0 (k + 1) b (i : Int) kd ts xs st = (vouchref21_put.f k b (ts[i].size : Int)).bind fun t113 => (if t113.length + ts[i].size < 140737488355328 then (vouchref21_Encode.l0 k (t113 ++ bytesOf ts[i]) ((i + 1 : Nat) : Int) kd ts xs st) else none) := by
      intro k
      simp only [vouchref21_Encode.l0, c1, c2, if_true, hr, hwi.out]
    refine Ev.step hstep (Ev.bind hz ?_)
    simp only [c3, if_true]
    have hl : (b ++ put ts[i].size ++ bytesOf ts[i]).length = b.length + (txt ts[i]).length := by
      unfold txt
      simp only [List.length_append]
      omega
    have := ih (i + 1) (b ++ put ts[i].size ++ bytesOf ts[i]) (by omega) (by omega) (by rw [hl]; omega)
    rw [hdrop, List.flatMap_cons]
    unfold txt at this ⊢
    simpa [List.append_assoc] using this

theorem encode_err {kd : Int} {ts : List ByteArray} {xs : List S41} {st : Int} (h : ¬ (encode kd ts xs st).2 = 0) : encode kd ts xs st = ([], (encode kd ts xs st).2) := by
  unfold encode at h ⊢
  by_cases hm : may kd ts xs st = 0
  · rw [if_pos hm] at h ⊢
    by_cases hl : (enc kd ts xs st).length > 1048576
    · rw [if_pos hl]
    · rw [if_neg hl] at h
      exact absurd rfl h
  · rw [if_neg hm]

theorem rencode_f (kd : Int) (ts : List ByteArray) (xs : List S41) (st : Int) (hs : ∀ s ∈ ts, s.size ≤ 140737488351232) : Ev (fun k => vouchref21_Encode.f k kd ts xs st) (encode kd ts xs st) := by
  unfold vouchref21_Encode.f
  refine Ev.bind (rcheck_f kd ts xs st hs) ?_
  by_cases h0 : (encode kd ts xs st).2 = 0
  · obtain ⟨hm, hl, hee⟩ := encode_ok h0
    obtain ⟨m1, m2, m3, m4, m5⟩ := may_zero hm
    have q := right_range m4
    have e0 : ((st.toNat : Nat) : Int) = st := by omega
    have l1 := put_length9 st.toNat (by omega)
    have l2 := put_length9 ts.length (by omega)
    have hlen := enc_length kd ts xs st
    simp only [h0, if_true]
    have s1 := rput_f st.toNat (by omega) [86, 80, kd] (by simp)
    rw [e0] at s1
    have s2 := rput_f ts.length (by omega) ([86, 80, kd] ++ put st.toNat) (by rw [List.length_append]; simp only [List.length_cons, List.length_nil]; omega)
    refine Ev.bind s1 (Ev.bind s2 ?_)
    have := renc_l0 kd st ts xs m5 m1 m2 ts.length 0 ([86, 80, kd] ++ put st.toNat ++ put ts.length) (by omega) (by omega) (by rw [List.length_append, List.length_append, List.drop_zero]; simp only [List.length_cons, List.length_nil]; omega)
    rw [hee]
    unfold enc
    simpa using this
  · rw [encode_err h0]
    simp only [h0, if_false]
    exact Ev.now _
end Go.Proofs.Ytmhmappdohddeaa.CodeM
