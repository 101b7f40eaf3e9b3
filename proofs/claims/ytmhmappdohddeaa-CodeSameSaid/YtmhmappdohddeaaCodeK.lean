/- What code.Same answers, plainly: are two programs the same; what LentProgram hands on is the program. -/
import Derived.Test.YtmhmappdohddeaaCodeC
import Derived.Test.YtmhmappdohddeaaHcodeSame
import Derived.Test.YtmhmappdohddeaaHvouchkitLentProgram
namespace Go.Proofs.Ytmhmappdohddeaa.CodeK
open Go.RowKit Go.Proofs.YtmhmappdohddeaaW.PrintWords Go.Proofs.Ytmhmappdohddeaa.H Go.Proofs.Ytmhmappdohddeaa.CodeA Go.Proofs.Ytmhmappdohddeaa.CodeB Go.Proofs.Ytmhmappdohddeaa.CodeC
set_option linter.unusedVariables false
set_option linter.unusedSimpArgs false

theorem str_nums (s : ByteArray) : strOfNums (numsOf s) = s := by
  unfold strOfNums numsOf
  rw [List.map_map]
  have : ((fun n : Int => UInt8.ofNat n.toNat) ∘ fun b : UInt8 => ((b.toNat : Nat) : Int)) = id := by
    funext b
    simp [Function.comp]
  rw [this, List.map_id]

theorem eq41_l0 (xs ys : List S41) (hl : xs.length = ys.length) (hn : xs.length ≤ 9223372036854775807) (d : Nat) : ∀ i : Nat, i ≤ xs.length → xs.length - i = d →
    Ev (fun k => api_Instr_33.l0 k xs ys (xs.length : Int) (i : Int)) (decide (xs.drop i = ys.drop i)) := by
  induction d with
  | zero =>
    intro i hi hd
    have : i = xs.length := by omega
    subst this
    have he : decide (xs.drop xs.length = ys.drop xs.length) = true := by rw [List.drop_length, hl, List.drop_length]; simp
    rw [he]
    refine Ev.step (f := fun _ => some true) (fun k => ?_) (Ev.now _)
    show (if _ then _ else _) = _
    rw [if_neg (by omega)]
  | succ d ih =>
    intro i hi hd
    have h1 : i < xs.length := by omega
    have h2 : i < ys.length := by omega
    have e1 : rd_T41 xs (i : Int) = xs[i] := by unfold rd_T41; rw [Int.toNat_natCast, List.getD_eq_getElem?_getD, List.getElem?_eq_getElem h1]; rfl
    have e2 : rd_T41 ys (i : Int) = ys[i] := by unfold rd_T41; rw [Int.toNat_natCast, List.getD_eq_getElem?_getD, List.getElem?_eq_getElem h2]; rfl
    have d1 : xs.drop i = xs[i] :: xs.drop (i + 1) := List.drop_eq_getElem_cons h1
    have d2 : ys.drop i = ys[i] :: ys.drop (i + 1) := List.drop_eq_getElem_cons h2
    have hstep : ∀ k, api_Instr_33.l0 (k + 1) xs ys (xs.length : Int) (i : Int) = if (!(xs[i].f0 == ys[i].f0) || (!(xs[i].f1 == ys[i].f1) || !(xs[i].f2 == ys[i].f2))) = true then some false else api_Instr_33.l0 k xs ys (xs.length : Int) ((i + 1 : Nat) : Int) := by
      intro k
      show (if _ then _ else _) = _
      rw [if_pos (by omega), if_pos (by omega), if_pos (by omega), if_pos (by omega), e1, e2, wrap_succ (n := xs.length) (by omega) (by omega) hn]
      rfl
    by_cases he : xs[i] = ys[i]
    · have hr : decide (xs.drop i = ys.drop i) = decide (xs.drop (i + 1) = ys.drop (i + 1)) := decide_eq_decide.2 (by rw [d1, d2, he]; exact ⟨fun h => (List.cons.inj h).2, fun h => by rw [h]⟩)
      rw [hr]
      refine Ev.step (fun k => ?_) (ih (i + 1) (by omega) (by omega))
      rw [hstep, he]
      simp
    · have hr : decide (xs.drop i = ys.drop i) = false := decide_eq_false (fun h => he (by rw [d1, d2] at h; exact (List.cons.inj h).1))
      rw [hr]
      refine Ev.step (f := fun _ => some false) (fun k => ?_) (Ev.now _)
      rw [hstep]
      have : (!(xs[i].f0 == ys[i].f0) || (!(xs[i].f1 == ys[i].f1) || !(xs[i].f2 == ys[i].f2))) = true := by
        cases hq : (!(xs[i].f0 == ys[i].f0) || (!(xs[i].f1 == ys[i].f1) || !(xs[i].f2 == ys[i].f2)))
        · exfalso
          apply he
          simp only [Bool.or_eq_false_iff, Bool.not_eq_false', beq_iff_eq] at hq
          cases hx : xs[i]; cases hy : ys[i]
          simp_all
        · rfl
      rw [if_pos this]
theorem eq41_f (xs ys : List S41) (hn : xs.length ≤ 9223372036854775807) : Ev (fun k => api_Instr_33.f k xs ys) (decide (xs = ys)) := by
  unfold api_Instr_33.f
  by_cases h : xs.length = ys.length
  · have h' : (xs.length : Int) = (ys.length : Int) := by omega
    simp only [h', if_true]
    have := eq41_l0 xs ys h hn xs.length 0 (by omega) (by omega)
    rw [h'] at this
    simpa using this
  · have h' : ¬ (xs.length : Int) = (ys.length : Int) := by omega
    have hr : decide (xs = ys) = false := decide_eq_false (fun e => h (by rw [e]))
    rw [hr]
    simp only [h', if_false]
    exact Ev.now _

theorem csame_l0 (a b s t : Int) (ts us : List ByteArray) (xs ys : List S41) (hl2 : ts.length = us.length) (hn2 : ts.length ≤ 9223372036854775807) (hts : ∀ u ∈ ts, u.size ≤ 140737488351232) (hus : ∀ u ∈ us, u.size ≤ 140737488351232) (d : Nat) : ∀ i : Nat, i ≤ ts.length → ts.length - i = d →
    Ev (fun k => code_Same.l0 k (ts.length : Int) (i : Int) a ts xs s b us ys t) (decide (ts.drop i = us.drop i)) := by
  induction d with
  | zero =>
    intro i hi hd
    have : i = ts.length := by omega
    subst this
    have he : decide (ts.drop ts.length = us.drop ts.length) = true := by rw [List.drop_length, hl2, List.drop_length]; simp
    rw [he]
    refine Ev.step (f := fun _ => some true) (fun k => ?_) (Ev.now _)
    show (if _ then _ else _) = _
    rw [if_neg (by omega)]
  | succ d ih =>
    intro i hi hd
    have h1 : i < ts.length := by omega
    have h2 : i < us.length := by omega
    have e1 : rdOf ByteArray.empty ts (i : Int) = ts[i] := by unfold rdOf; rw [Int.toNat_natCast, List.getD_eq_getElem?_getD, List.getElem?_eq_getElem h1]; rfl
    have e2 : rdOf ByteArray.empty us (i : Int) = us[i] := by unfold rdOf; rw [Int.toNat_natCast, List.getD_eq_getElem?_getD, List.getElem?_eq_getElem h2]; rfl
    have d1 : ts.drop i = ts[i] :: ts.drop (i + 1) := List.drop_eq_getElem_cons h1
    have d2 : us.drop i = us[i] :: us.drop (i + 1) := List.drop_eq_getElem_cons h2
    have s1 := hts ts[i] (List.getElem_mem h1)
    have s2 := hus us[i] (List.getElem_mem h2)
    have hstep : ∀ k, code_Same.l0 (k + 1) (ts.length : Int) (i : Int) a ts xs s b us ys t = if ts[i].toList = us[i].toList then code_Same.l0 k (ts.length : Int) ((i + 1 : Nat) : Int) a ts xs s b us ys t else some false := by
      intro k
      show (if _ then _ else _) = _
      rw [if_pos (by omega), if_pos (by omega), if_pos (by omega), e1, e2, if_pos (by omega), if_pos (by omega), if_pos (by omega)]
      unfold bytes_Equal.f
      rw [str_nums, str_nums, wrap_succ (n := ts.length) (by omega) (by omega) hn2]
      simp only [Option.bind_some]
      by_cases hq : ts[i].toList = us[i].toList
      · rw [if_pos hq, if_pos (by rw [hq]; exact beq_self_eq_true _)]
        rfl
      · rw [if_neg hq, if_neg (by simpa using hq)]
    by_cases he : ts[i] = us[i]
    · have hr : decide (ts.drop i = us.drop i) = decide (ts.drop (i + 1) = us.drop (i + 1)) := decide_eq_decide.2 (by rw [d1, d2, he]; exact ⟨fun h => (List.cons.inj h).2, fun h => by rw [h]⟩)
      rw [hr]
      refine Ev.step (fun k => ?_) (ih (i + 1) (by omega) (by omega))
      rw [hstep, he, if_pos rfl]
    · have hr : decide (ts.drop i = us.drop i) = false := decide_eq_false (fun h => he (by rw [d1, d2] at h; exact (List.cons.inj h).1))
      rw [hr]
      refine Ev.step (f := fun _ => some false) (fun k => ?_) (Ev.now _)
      rw [hstep, if_neg (fun h => he (bytes_ext h))]

theorem csame_f (a : Int) (ts : List ByteArray) (xs : List S41) (s : Int) (b : Int) (us : List ByteArray) (ys : List S41) (t : Int) (hn : xs.length ≤ 9223372036854775807) (hn2 : ts.length ≤ 9223372036854775807) (hts : ∀ u ∈ ts, u.size ≤ 140737488351232) (hus : ∀ u ∈ us, u.size ≤ 140737488351232) :
    Ev (fun k => code_Same.f k a ts xs s b us ys t) (decide (a = b ∧ ts = us ∧ xs = ys ∧ s = t)) := by
  have hj : ∀ q : Bool, Ev (fun k => code_Same.j0 k true a ts xs s b us ys t) false := by
    intro q
    refine Ev.step (f := fun _ => some false) (fun k => ?_) (Ev.now _)
    simp only [code_Same.j0, if_true]
  unfold code_Same.f
  by_cases c1 : a = b
  · by_cases c2 : s = t
    · by_cases c3 : ts.length = us.length
      · have c3' : (ts.length : Int) = (us.length : Int) := by omega
        refine Ev.congr (f := fun k => (api_Instr_33.f k xs ys).bind fun t103 => (code_Same.j0 k (!t103) a ts xs s b us ys t)) (fun k => by rw [if_pos c1, if_pos c2, if_pos c3']) ?_
        refine Ev.bind (eq41_f xs ys hn) ?_
        by_cases c4 : xs = ys
        · have hr : decide (a = b ∧ ts = us ∧ xs = ys ∧ s = t) = decide (ts.drop 0 = us.drop 0) := decide_eq_decide.2 ⟨fun h => h.2.1, fun h => ⟨c1, h, c4, c2⟩⟩
          rw [decide_eq_true c4, hr]
          refine Ev.step (fun k => ?_) (csame_l0 a b s t ts us xs ys c3 hn2 hts hus ts.length 0 (by omega) (by omega))
          simp only [code_Same.j0, Bool.not_true, Bool.false_eq_true, if_false]
          rfl
        · have hr : decide (a = b ∧ ts = us ∧ xs = ys ∧ s = t) = false := decide_eq_false (fun h => c4 h.2.2.1)
          rw [decide_eq_false c4, hr]
          exact hj true
      · have c3' : ¬ (ts.length : Int) = (us.length : Int) := by omega
        have hr : decide (a = b ∧ ts = us ∧ xs = ys ∧ s = t) = false := decide_eq_false (fun h => c3 (by rw [h.2.1]))
        rw [hr]
        refine Ev.congr (f := fun k => code_Same.j0 k true a ts xs s b us ys t) (fun k => by rw [if_pos c1, if_pos c2, if_neg c3']) (hj true)
    · have hr : decide (a = b ∧ ts = us ∧ xs = ys ∧ s = t) = false := decide_eq_false (fun h => c2 h.2.2.2)
      rw [hr]
      refine Ev.congr (f := fun k => code_Same.j0 k true a ts xs s b us ys t) (fun k => by rw [if_pos c1, if_neg c2]) (hj true)
  · have hr : decide (a = b ∧ ts = us ∧ xs = ys ∧ s = t) = false := decide_eq_false (fun h => c1 h.1)
    rw [hr]
    refine Ev.congr (f := fun k => code_Same.j0 k true a ts xs s b us ys t) (fun k => by rw [if_neg c1]) (hj true)

theorem lent_f (a : Int) (ts : List ByteArray) (xs : List S41) (s : Int) (ht : ts.length ≤ 65536) (hx : xs.length ≤ 65536) : vouchkit_LentProgram.f a ts xs s = some (a, ts, xs, s) := by
  have c1 : ([] : List ByteArray).length + ts.length < 8796093022208 := by simp only [List.length_nil]; omega
  have c2 : ts.length < 8796093022208 := by omega
  have c3 : (0 : Int) ≤ (ts.length : Int) := by omega
  have c4 : (ts.length : Int) ≤ ((ts ++ [(⟨#[109, 97, 114, 107]⟩ : ByteArray)]).length : Int) := by rw [List.length_append]; omega
  have c5 : ([] : List S41).length + xs.length < 5864062014805 := by simp only [List.length_nil]; omega
  have c6 : xs.length < 5864062014805 := by omega
  have c7 : (0 : Int) ≤ (xs.length : Int) := by omega
  have c8 : (xs.length : Int) ≤ ((xs ++ [(⟨77, 0, 0⟩ : S41)]).length : Int) := by rw [List.length_append]; omega
  have e1 : (ts ++ [(⟨#[109, 97, 114, 107]⟩ : ByteArray)]).take ((ts.length : Int)).toNat = ts := by simp
  have e2 : (xs ++ [(⟨77, 0, 0⟩ : S41)]).take ((xs.length : Int)).toNat = xs := by simp
  unfold vouchkit_LentProgram.f
  simp only [c1, c2, c3, c4, c5, c6, c7, c8, e1, e2, if_true, Option.bind_some, List.nil_append]
end Go.Proofs.Ytmhmappdohddeaa.CodeK
