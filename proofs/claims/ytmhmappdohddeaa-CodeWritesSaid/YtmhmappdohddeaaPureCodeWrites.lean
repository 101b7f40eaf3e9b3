/- The plain statement of CodeWrites: any program: may it be written, its bytes; it stays, what is answered is the caller's. -/
import Derived.Test.YtmhmappdohddeaaCodeM
import Derived.Test.YtmhmappdohddeaaStatCodeWrites
namespace Go.Proofs.Ytmhmappdohddeaa.Pure
open Go.RowKit Go.Proofs.YtmhmappdohddeaaW.PrintWords Go.Proofs.Ytmhmappdohddeaa.H Go.Proofs.Ytmhmappdohddeaa.CodeA Go.Proofs.Ytmhmappdohddeaa.CodeB Go.Proofs.Ytmhmappdohddeaa.CodeC Go.Proofs.Ytmhmappdohddeaa.CodeL Go.Proofs.Ytmhmappdohddeaa.CodeM Go.Proofs.Ytmhmappdohddeaa.PCodeWrites
set_option linter.unusedVariables false
set_option linter.unusedSimpArgs false

theorem wlent_f (a : Int) (ts : List ByteArray) (xs : List S41) (s : Int) (ht : ts.length ≤ 65536) (hx : xs.length ≤ 65536) : vouchkit_LentFull.f a ts xs s = some (a, ts, xs, s) := by
  have c1 : ([] : List ByteArray).length + ts.length < 8796093022208 := by simp only [List.length_nil]; omega
  have c2 : ts.length < 8796093022208 := by omega
  have c3 : (0 : Int) ≤ (ts.length : Int) := by omega
  have c4 : (ts.length : Int) ≤ ((ts ++ [(⟨#[109, 97, 114, 107]⟩ : ByteArray)]).length : Int) := by rw [List.length_append]; omega
  have c5 : ([] : List S41).length + xs.length < 5864062014805 := by simp only [List.length_nil]; omega
  have c6 : xs.length < 5864062014805 := by omega
  have c7 : (0 : Int) ≤ (xs.length : Int) := by omega
  have c8 : (xs.length : Int) ≤ ((xs ++ [(⟨77, 0, 0⟩ : S41)]).length : Int) := by rw [List.length_append]; omega
  have e1 : (ts ++ [(⟨#[109, 97, 114, 107]⟩ : ByteArray)]).take ((ts.length : Int)).toNat = ts := by simp
  have e2 : (xs ++ [(⟨77, 0, 0⟩ : S41)]).take ((xs.length : Int)).toNat = xs := by simp
  show vouchkit_LentProgram.f a ts xs s = _
  unfold vouchkit_LentProgram.f
  simp only [c1, c2, c3, c4, c5, c6, c7, c8, e1, e2, if_true, Option.bind_some, List.nil_append]
theorem wcheck_f (kd : Int) (ts : List ByteArray) (xs : List S41) (st : Int) (hs : ∀ s ∈ ts, s.size ≤ 140737488351232) (hxl : xs.length ≤ 9223372036854775807) : Ev (fun k => code_Check.f k kd ts xs st) (encode kd ts xs st).2 := by
  unfold code_Check.f
  exact Ev.bind (encode_f kd ts xs st hs hxl) (Ev.now _)
theorem kept_f (a : Int) (ts : List ByteArray) (xs : List S41) (s : Int) (ht : ts.length ≤ 65536) (hx : xs.length ≤ 65536) : Ev (fun k => vouchkit_KeptFull.f k a ts xs s a ts xs s) true := by
  have h := same_f a ts xs s a ts xs s (by omega) (by omega)
  have : decide (a = a ∧ ts = ts ∧ xs = xs ∧ s = s) = true := by simp
  rw [this] at h
  have c1 : (ts.length : Int) < 65537 := by omega
  have c2 : (xs.length : Int) < 65537 := by omega
  refine Ev.congr (fun k => ?_) h
  unfold vouchkit_KeptFull.f
  rw [if_pos c1, if_pos c2]

theorem writes_l0 (b : List Int) (a : Int) (ts : List ByteArray) (xs : List S41) (s : Int) (hb : b = (encode a ts xs s).1) (hs : ∀ u ∈ ts, u.size ≤ 140737488351232) (ht : ts.length ≤ 65536) (hx : xs.length ≤ 65536) (n : Nat) : ∀ (i : Nat) (y : List Int), i + n = y.length → y.length ≤ 140737488355328 → Ev (fun k => vouchlaw21_CodeWrites.l0 k b y (i : Int) a ts xs s a ts xs s) true := by
  induction n with
  | zero =>
    intro i y hi hy
    have c1 : ¬ (i : Int) < (y.length : Int) := by omega
    have hstep : ∀ k, vouchlaw21_CodeWrites.l0 (k + 1) b y (i : Int) a ts xs s a ts xs s = ((code_Encode.f k a ts xs s).bind fun bt125 => (if (strOfNums bt125.1).toList = (strOfNums b).toList then ((vouchkit_KeptFull.f k a ts xs s a ts xs s).bind fun t129 => (if t129 = true then ((vouchlaw21_works.f k).bind fun t130 => (some t130)) else (some false))) else (some false))) := by
      intro k
      simp only [vouchlaw21_CodeWrites.l0, c1, if_false]
    refine Ev.step hstep (Ev.bind (encode_f a ts xs s hs (by omega)) ?_)
    rw [← hb]
    simp only [if_true]
    refine Ev.bind (kept_f a ts xs s ht hx) ?_
    simp only [if_true]
    exact Ev.congr (fun k => by cases vouchlaw21_works.f k <;> rfl) works_f
  | succ n ih =>
    intro i y hi hy
    have c1 : (i : Int) < (y.length : Int) := by omega
    have c2 : (0 : Int) ≤ (i : Int) := by omega
    have w : wrap64 ((i : Int) + 1) = ((i + 1 : Nat) : Int) := by unfold wrap64; omega
    refine Ev.step (fun k => ?_) (ih (i + 1) (y.set i 99) (by rw [List.length_set]; clear w; omega) (by rw [List.length_set]; exact hy))
    simp only [vouchlaw21_CodeWrites.l0, c1, c2, if_true, w, Int.toNat_natCast]

theorem encode_short {kd : Int} {ts : List ByteArray} {xs : List S41} {st : Int} : (encode kd ts xs st).1.length ≤ 1048576 := by
  by_cases h : (encode kd ts xs st).2 = 0
  · obtain ⟨_, hl, he⟩ := encode_ok h
    rw [he]
    exact hl
  · rw [encode_err h]
    exact Nat.zero_le _

theorem CodeWrites : vouchlaw21_CodeWrites.Pure := by
  intro a ts xs s ga
  have hts : ∀ u ∈ ts, u.size ≤ 140737488351232 := ga.2.1.2.2
  have hxl : xs.length ≤ 9223372036854775807 := ga.2.2.1.1
  have hw : ∀ k, (vouchlaw21_works.f k).bind (fun t => some t) = vouchlaw21_works.f k := by intro k; cases vouchlaw21_works.f k <;> rfl
  have hjt : xs.length > 65536 ∨ ts.length > 65536 → Ev (fun k => vouchlaw21_CodeWrites.j0 k true a ts xs s) true := by
    intro h
    have hm : may a ts xs s = 3 := by unfold may; rw [if_pos (by omega)]
    have he : (encode a ts xs s).2 = 3 := by unfold encode; rw [hm, if_neg (by decide)]
    have hc := wcheck_f a ts xs s hts hxl
    rw [he] at hc
    have hs : ∀ k, vouchlaw21_CodeWrites.j0 (k + 1) true a ts xs s = (code_Check.f k a ts xs s).bind fun t102 => (if t102 = 3 then ((vouchlaw21_works.f k).bind fun t103 => (some t103)) else (some false)) := by
      intro k
      simp only [vouchlaw21_CodeWrites.j0, if_true]
    refine Ev.step hs (Ev.bind hc ?_)
    simp only [if_true]
    exact Ev.congr hw works_f
  refine Ev.rounds (g := fun k => vouchlaw21_CodeWrites.f k a ts xs s) ?_
  unfold vouchlaw21_CodeWrites.f
  by_cases h1 : (xs.length : Int) > 65536
  · simp only [h1, if_true]; exact hjt (.inl (by omega))
  simp only [h1, if_false]
  by_cases h2 : (ts.length : Int) > 65536
  · rw [decide_eq_true h2]; exact hjt (.inr (by omega))
  rw [decide_eq_false h2]
  have hx : xs.length ≤ 65536 := by omega
  have ht : ts.length ≤ 65536 := by omega
  have hen := encode_f a ts xs s hts hxl
  have hck := wcheck_f a ts xs s hts hxl
  have hs : ∀ k, vouchlaw21_CodeWrites.j0 (k + 1) false a ts xs s = ((vouchref21_Encode.f k a ts xs s).bind fun bt113 => ((code_Encode.f k a ts xs s).bind fun bt117 => (if (strOfNums bt117.1).toList = (strOfNums bt113.1).toList then (if bt117.2 = bt113.2 then ((code_Check.f k a ts xs s).bind fun t121 => ((vouchref21_Check.f k a ts xs s).bind fun t122 => (if t121 = t122 then ((vouchkit_KeptFull.f k a ts xs s a ts xs s).bind fun t123 => (vouchlaw21_CodeWrites.j1 k bt113.1 bt117.1 (!t123) a ts xs s a ts xs s)) else (vouchlaw21_CodeWrites.j1 k bt113.1 bt117.1 true a ts xs s a ts xs s)))) else (vouchlaw21_CodeWrites.j1 k bt113.1 bt117.1 true a ts xs s a ts xs s)) else (vouchlaw21_CodeWrites.j1 k bt113.1 bt117.1 true a ts xs s a ts xs s)))) := by
    intro k
    simp only [vouchlaw21_CodeWrites.j0, Bool.false_eq_true, if_false, wlent_f a ts xs s ht hx, Option.bind_some]
  refine Ev.step hs (Ev.bind (rencode_f a ts xs s hts) (Ev.bind hen ?_))
  simp only [if_true]
  refine Ev.bind hck (Ev.bind (rcheck_f a ts xs s hts) ?_)
  simp only [if_true]
  refine Ev.bind (kept_f a ts xs s ht hx) ?_
  have hs1 : ∀ k, vouchlaw21_CodeWrites.j1 (k + 1) (encode a ts xs s).1 (encode a ts xs s).1 (!true) a ts xs s a ts xs s = vouchlaw21_CodeWrites.l0 k (encode a ts xs s).1 (encode a ts xs s).1 0 a ts xs s a ts xs s := by
    intro k
    simp only [vouchlaw21_CodeWrites.j1, Bool.not_true, Bool.false_eq_true, if_false]
  refine Ev.step hs1 ?_
  have hsh := encode_short (kd := a) (ts := ts) (xs := xs) (st := s)
  exact writes_l0 _ a ts xs s rfl hts ht hx (encode a ts xs s).1.length 0 (encode a ts xs s).1 (by omega) (by omega)
end Go.Proofs.Ytmhmappdohddeaa.Pure
