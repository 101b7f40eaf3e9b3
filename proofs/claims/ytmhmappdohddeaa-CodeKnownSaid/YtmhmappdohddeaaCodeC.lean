/- Plain facts for the statements on programs' bytes: the short call that must answer, programs that are the same, and that two programs with the same bytes are the same. -/
import Derived.Test.YtmhmappdohddeaaCodeB
import Derived.Test.YtmhmappdohddeaaHvouchlaw21works
import Derived.Test.YtmhmappdohddeaaHvouchkitSameProgram
import Derived.Lib.Strings
namespace Go.Proofs.Ytmhmappdohddeaa.CodeC
open Go.RowKit Go.Proofs.YtmhmappdohddeaaW.PrintWords Go.Proofs.Ytmhmappdohddeaa.H Go.Proofs.Ytmhmappdohddeaa.CodeA Go.Proofs.Ytmhmappdohddeaa.CodeB
set_option linter.unusedVariables false
set_option linter.unusedSimpArgs false

instance decS41 : DecidableEq S41 := fun x y => decidable_of_iff (x.f0 = y.f0 ∧ x.f1 = y.f1 ∧ x.f2 = y.f2) ⟨fun h => by cases x; cases y; simp_all, fun h => by rw [h]; exact ⟨rfl, rfl, rfl⟩⟩

theorem enc_works : encode 1 [] [(⟨33, 0, 0⟩ : S41)] 0 = ([86, 80, 1, 0, 0, 1, 33], 0) := by
  have p0 : put 0 = [0] := put_small (by omega)
  have p1 : put 1 = [1] := put_small (by omega)
  have he : enc 1 [] [(⟨33, 0, 0⟩ : S41)] 0 = [86, 80, 1, 0, 0, 1, 33] := by
    simp [enc, p0, p1, ins, hasA, hasB, ofS]
  have hm : may 1 [] [(⟨33, 0, 0⟩ : S41)] 0 = 0 := by
    simp [may, right, okI, hasA, hasB, ofS]
  unfold encode
  rw [hm, he]
  simp

theorem works_f : Ev (fun k => vouchlaw21_works.f k) true := by
  unfold vouchlaw21_works.f
  have h := encode_f 1 [] [(⟨33, 0, 0⟩ : S41)] 0 (by simp) (by simp)
  rw [enc_works] at h
  refine Ev.bind h ?_
  have : ((strOfNums [86, 80, 1, 0, 0, 1, 33]).toList == ([86, 80, 1, 0, 0, 1, 33] : List UInt8)) = true := by
    rw [Lib.toList_data]
    decide
  simp only [if_true, this]
  exact Ev.now true

theorem bytes_ext {s t : ByteArray} (h : s.toList = t.toList) : s = t := by
  rw [Lib.toList_data, Lib.toList_data] at h
  cases s with
  | mk a =>
    cases t with
    | mk b =>
      congr 1
      exact Array.toList_inj.1 h

theorem strOfNums_inj {xs ys : List Int} (hx : ∀ n ∈ xs, 0 ≤ n ∧ n ≤ 255) (hy : ∀ n ∈ ys, 0 ≤ n ∧ n ≤ 255) (h : (strOfNums xs).toList = (strOfNums ys).toList) : xs = ys := by
  rw [Lib.toList_data, Lib.toList_data] at h
  simp only [strOfNums] at h
  have back : ∀ l : List Int, (∀ n ∈ l, 0 ≤ n ∧ n ≤ 255) → (l.map fun n => UInt8.ofNat n.toNat).map (fun b => (b.toNat : Int)) = l := by
    intro l hl
    rw [List.map_map]
    conv => rhs; rw [← List.map_id l]
    refine List.map_congr_left (fun n hn => ?_)
    have := hl n hn
    simp only [Function.comp_apply, id, UInt8.toNat_ofNat']
    omega
  rw [← back xs hx, ← back ys hy, h]

/-! Programs that are the same. -/
theorem same_l1 (a b s t : Int) (ts us : List ByteArray) (xs ys : List S41) (hl : xs.length = ys.length) (hn : xs.length ≤ 9223372036854775807) (d : Nat) : ∀ i : Nat, i ≤ xs.length → xs.length - i = d →
    Ev (fun k => vouchkit_SameProgram.l1 k (i : Int) a ts xs s b us ys t) (decide (xs.drop i = ys.drop i)) := by
  induction d with
  | zero =>
    intro i hi hd
    have : i = xs.length := by omega
    subst this
    have he : decide (xs.drop xs.length = ys.drop xs.length) = true := by rw [List.drop_length, hl, List.drop_length]; simp
    rw [he]
    refine Ev.step (f := fun _ => some true) (fun k => ?_) (Ev.now _)
    show (if _ then _ else _) = _
    rw [if_neg (by omega)]
  | succ d ih =>
    intro i hi hd
    have h1 : i < xs.length := by omega
    have h2 : i < ys.length := by omega
    have e1 : rd_T41 xs (i : Int) = xs[i] := by unfold rd_T41; rw [Int.toNat_natCast, List.getD_eq_getElem?_getD, List.getElem?_eq_getElem h1]; rfl
    have e2 : rd_T41 ys (i : Int) = ys[i] := by unfold rd_T41; rw [Int.toNat_natCast, List.getD_eq_getElem?_getD, List.getElem?_eq_getElem h2]; rfl
    have d1 : xs.drop i = xs[i] :: xs.drop (i + 1) := List.drop_eq_getElem_cons h1
    have d2 : ys.drop i = ys[i] :: ys.drop (i + 1) := List.drop_eq_getElem_cons h2
    have hstep : ∀ k, vouchkit_SameProgram.l1 (k + 1) (i : Int) a ts xs s b us ys t = if (!(xs[i].f0 == ys[i].f0) || (!(xs[i].f1 == ys[i].f1) || !(xs[i].f2 == ys[i].f2))) = true then some false else vouchkit_SameProgram.l1 k ((i + 1 : Nat) : Int) a ts xs s b us ys t := by
      intro k
      show (if _ then _ else _) = _
      rw [if_pos (by omega), if_pos (by omega), if_pos (by omega), e1, e2, wrap_succ (n := xs.length) (by omega) (by omega) hn]
      rfl
    by_cases he : xs[i] = ys[i]
    · have hr : decide (xs.drop i = ys.drop i) = decide (xs.drop (i + 1) = ys.drop (i + 1)) := decide_eq_decide.2 (by rw [d1, d2, he]; exact ⟨fun h => (List.cons.inj h).2, fun h => by rw [h]⟩)
      rw [hr]
      refine Ev.step (fun k => ?_) (ih (i + 1) (by omega) (by omega))
      rw [hstep, he]
      simp
    · have hr : decide (xs.drop i = ys.drop i) = false := decide_eq_false (fun h => he (by rw [d1, d2] at h; exact (List.cons.inj h).1))
      rw [hr]
      refine Ev.step (f := fun _ => some false) (fun k => ?_) (Ev.now _)
      rw [hstep]
      have : (!(xs[i].f0 == ys[i].f0) || (!(xs[i].f1 == ys[i].f1) || !(xs[i].f2 == ys[i].f2))) = true := by
        cases hq : (!(xs[i].f0 == ys[i].f0) || (!(xs[i].f1 == ys[i].f1) || !(xs[i].f2 == ys[i].f2)))
        · exfalso
          apply he
          simp only [Bool.or_eq_false_iff, Bool.not_eq_false', beq_iff_eq] at hq
          cases hx : xs[i]; cases hy : ys[i]
          simp_all
        · rfl
      rw [if_pos this]

theorem same_l0 (a b s t : Int) (ts us : List ByteArray) (xs ys : List S41) (hl : xs.length = ys.length) (hn : xs.length ≤ 9223372036854775807) (hl2 : ts.length = us.length) (hn2 : ts.length ≤ 9223372036854775807) (d : Nat) : ∀ i : Nat, i ≤ ts.length → ts.length - i = d →
    Ev (fun k => vouchkit_SameProgram.l0 k (i : Int) a ts xs s b us ys t) (decide (ts.drop i = us.drop i ∧ xs = ys)) := by
  induction d with
  | zero =>
    intro i hi hd
    have : i = ts.length := by omega
    subst this
    have he : decide (ts.drop ts.length = us.drop ts.length ∧ xs = ys) = decide (xs.drop 0 = ys.drop 0) := by rw [List.drop_length, hl2, List.drop_length]; simp
    rw [he]
    refine Ev.step (fun k => ?_) (same_l1 a b s t ts us xs ys hl hn xs.length 0 (by omega) (by omega))
    show (if _ then _ else _) = _
    rw [if_neg (by omega)]
    rfl
  | succ d ih =>
    intro i hi hd
    have h1 : i < ts.length := by omega
    have h2 : i < us.length := by omega
    have e1 : rdOf ByteArray.empty ts (i : Int) = ts[i] := by unfold rdOf; rw [Int.toNat_natCast, List.getD_eq_getElem?_getD, List.getElem?_eq_getElem h1]; rfl
    have e2 : rdOf ByteArray.empty us (i : Int) = us[i] := by unfold rdOf; rw [Int.toNat_natCast, List.getD_eq_getElem?_getD, List.getElem?_eq_getElem h2]; rfl
    have d1 : ts.drop i = ts[i] :: ts.drop (i + 1) := List.drop_eq_getElem_cons h1
    have d2 : us.drop i = us[i] :: us.drop (i + 1) := List.drop_eq_getElem_cons h2
    have hstep : ∀ k, vouchkit_SameProgram.l0 (k + 1) (i : Int) a ts xs s b us ys t = if ts[i].toList = us[i].toList then vouchkit_SameProgram.l0 k ((i + 1 : Nat) : Int) a ts xs s b us ys t else some false := by
      intro k
      show (if _ then _ else _) = _
      rw [if_pos (by omega), if_pos (by omega), if_pos (by omega), e1, e2, wrap_succ (n := ts.length) (by omega) (by omega) hn2]
      rfl
    by_cases he : ts[i] = us[i]
    · have hr : decide (ts.drop i = us.drop i ∧ xs = ys) = decide (ts.drop (i + 1) = us.drop (i + 1) ∧ xs = ys) := decide_eq_decide.2 (by rw [d1, d2, he]; exact ⟨fun h => ⟨(List.cons.inj h.1).2, h.2⟩, fun h => ⟨by rw [h.1], h.2⟩⟩)
      rw [hr]
      refine Ev.step (fun k => ?_) (ih (i + 1) (by omega) (by omega))
      rw [hstep, he, if_pos rfl]
    · have hr : decide (ts.drop i = us.drop i ∧ xs = ys) = false := decide_eq_false (fun h => he (by have h := h.1; rw [d1, d2] at h; exact (List.cons.inj h).1))
      rw [hr]
      refine Ev.step (f := fun _ => some false) (fun k => ?_) (Ev.now _)
      rw [hstep, if_neg (fun h => he (bytes_ext h))]

theorem same_f (a : Int) (ts : List ByteArray) (xs : List S41) (s : Int) (b : Int) (us : List ByteArray) (ys : List S41) (t : Int) (hn : xs.length ≤ 9223372036854775807) (hn2 : ts.length ≤ 9223372036854775807) :
    Ev (fun k => vouchkit_SameProgram.f k a ts xs s b us ys t) (decide (a = b ∧ ts = us ∧ xs = ys ∧ s = t)) := by
  have hj : ∀ q : Bool, Ev (fun k => vouchkit_SameProgram.j0 k true a ts xs s b us ys t) false := by
    intro q
    refine Ev.step (f := fun _ => some false) (fun k => ?_) (Ev.now _)
    simp only [vouchkit_SameProgram.j0, if_true]
  unfold vouchkit_SameProgram.f
  by_cases c1 : a = b
  · by_cases c2 : s = t
    · by_cases c3 : ts.length = us.length
      · have c3' : (ts.length : Int) = (us.length : Int) := by omega
        refine Ev.congr (f := fun k => vouchkit_SameProgram.j0 k ((xs.length : Int) != (ys.length : Int)) a ts xs s b us ys t) (fun k => by rw [if_pos c1, if_pos c2, if_pos c3']) ?_
        by_cases c4 : xs.length = ys.length
        · have hb : ((xs.length : Int) != (ys.length : Int)) = false := by rw [c4]; simp
          have hr : decide (a = b ∧ ts = us ∧ xs = ys ∧ s = t) = decide (ts.drop 0 = us.drop 0 ∧ xs = ys) := decide_eq_decide.2 ⟨fun h => ⟨h.2.1, h.2.2.1⟩, fun h => ⟨c1, h.1, h.2, c2⟩⟩
          rw [hb, hr]
          refine Ev.step (fun k => ?_) (same_l0 a b s t ts us xs ys c4 hn c3 hn2 ts.length 0 (by omega) (by omega))
          simp only [vouchkit_SameProgram.j0, Bool.false_eq_true, if_false]
          rfl
        · have hb : ((xs.length : Int) != (ys.length : Int)) = true := by rw [bne_iff_ne]; omega
          have hr : decide (a = b ∧ ts = us ∧ xs = ys ∧ s = t) = false := decide_eq_false (fun h => c4 (by rw [h.2.2.1]))
          rw [hb, hr]
          exact hj true
      · have c3' : ¬ (ts.length : Int) = (us.length : Int) := by omega
        have hr : decide (a = b ∧ ts = us ∧ xs = ys ∧ s = t) = false := decide_eq_false (fun h => c3 (by rw [h.2.1]))
        rw [hr]
        exact Ev.congr (fun k => by rw [if_pos c1, if_pos c2, if_neg c3']) (hj true)
    · have hr : decide (a = b ∧ ts = us ∧ xs = ys ∧ s = t) = false := decide_eq_false (fun h => c2 h.2.2.2)
      rw [hr]
      exact Ev.congr (fun k => by rw [if_pos c1, if_neg c2]) (hj true)
  · have hr : decide (a = b ∧ ts = us ∧ xs = ys ∧ s = t) = false := decide_eq_false (fun h => c1 h.1)
    rw [hr]
    exact Ev.congr (fun k => by rw [if_neg c1]) (hj true)

/-! The bytes tell the program. -/
theorem put_inj (n : Nat) : ∀ (m : Nat) (r q : List Int), put n ++ r = put m ++ q → n = m ∧ r = q := by
  induction n using Nat.strongRecOn with
  | _ n ih =>
    intro m r q h
    by_cases hn : n < 128
    · by_cases hm : m < 128
      · rw [put_small hn, put_small hm] at h
        simp only [List.singleton_append, List.cons.injEq] at h
        exact ⟨by omega, h.2⟩
      · rw [put_small hn, put_large hm] at h
        simp only [List.singleton_append, List.cons_append, List.cons.injEq] at h
        omega
    · by_cases hm : m < 128
      · rw [put_large hn, put_small hm] at h
        simp only [List.singleton_append, List.cons_append, List.cons.injEq] at h
        omega
      · rw [put_large hn, put_large hm] at h
        simp only [List.cons_append, List.cons.injEq] at h
        obtain ⟨h1, h2⟩ := ih (n / 128) (by omega) (m / 128) r q h.2
        exact ⟨by omega, h2⟩

theorem bytesOf_inj {s t : ByteArray} (h : bytesOf s = bytesOf t) : s = t := by
  apply bytes_ext
  rw [Lib.toList_data, Lib.toList_data]
  unfold bytesOf at h
  refine List.map_inj_right (f := fun b : UInt8 => (b.toNat : Int)) (fun x y hxy => ?_) |>.1 h
  have h2 : (x.toNat : Int) = (y.toNat : Int) := hxy
  exact UInt8.toNat_inj.1 (by omega)

theorem txts_inj : ∀ (ts us : List ByteArray) (r q : List Int), ts.length = us.length → ts.flatMap txt ++ r = us.flatMap txt ++ q → ts = us ∧ r = q
  | [], [], r, q, _, h => ⟨rfl, by simpa using h⟩
  | [], _ :: _, _, _, hl, _ => by simp at hl
  | _ :: _, [], _, _, hl, _ => by simp at hl
  | s :: ts, u :: us, r, q, hl, h => by
    simp only [List.flatMap_cons, txt, List.append_assoc] at h
    obtain ⟨h1, h2⟩ := put_inj _ _ _ _ h
    obtain ⟨h3, h4⟩ := List.append_inj h2 (by rw [bytesOf_length, bytesOf_length, h1])
    obtain ⟨h5, h6⟩ := txts_inj ts us r q (by simpa using hl) h4
    exact ⟨by rw [bytesOf_inj h3, h5], h6⟩

theorem toNat_inj {a b : Int} (ha : 0 ≤ a) (hb : 0 ≤ b) (h : a.toNat = b.toNat) : a = b := by omega

theorem inss_inj : ∀ (xs ys : List S41) (r q : List Int), (∀ x ∈ xs, okI x = true) → (∀ x ∈ ys, okI x = true) → xs.length = ys.length → xs.flatMap ins ++ r = ys.flatMap ins ++ q → xs = ys ∧ r = q
  | [], [], r, q, _, _, _, h => ⟨rfl, by simpa using h⟩
  | [], _ :: _, _, _, _, _, hl, _ => by simp at hl
  | _ :: _, [], _, _, _, _, hl, _ => by simp at hl
  | x :: xs, y :: ys, r, q, hx, hy, hl, h => by
    simp only [List.flatMap_cons, ins, List.append_assoc, List.cons_append, List.cons.injEq] at h
    obtain ⟨h0, h⟩ := h
    obtain ⟨_, _, x1, x2⟩ := okI_parts (hx x (by simp))
    obtain ⟨_, _, y1, y2⟩ := okI_parts (hy y (by simp))
    have rx1 := right_range x1
    have rx2 := right_range x2
    have ry1 := right_range y1
    have ry2 := right_range y2
    have hA : x.f1 = y.f1 ∧ (if hasB x.f0 = true then put x.f2.toNat else []) ++ (xs.flatMap ins ++ r) = (if hasB y.f0 = true then put y.f2.toNat else []) ++ (ys.flatMap ins ++ q) := by
      rw [h0] at h x1 ⊢
      cases ha : hasA y.f0
      · rw [ha] at h
        simp only [Bool.false_eq_true, if_false, List.nil_append] at h
        exact ⟨by rw [right_zero x1 ha, right_zero y1 ha], h⟩
      · rw [ha] at h
        simp only [if_true] at h
        obtain ⟨h1, h2⟩ := put_inj _ _ _ _ h
        exact ⟨toNat_inj rx1.1 ry1.1 h1, h2⟩
    have hB : x.f2 = y.f2 ∧ xs.flatMap ins ++ r = ys.flatMap ins ++ q := by
      have h2 := hA.2
      rw [h0] at h2 x2
      cases hb : hasB y.f0
      · rw [hb] at h2
        simp only [Bool.false_eq_true, if_false, List.nil_append] at h2
        exact ⟨by rw [right_zero x2 hb, right_zero y2 hb], h2⟩
      · rw [hb] at h2
        simp only [if_true] at h2
        obtain ⟨h1, h3⟩ := put_inj _ _ _ _ h2
        exact ⟨toNat_inj rx2.1 ry2.1 h1, h3⟩
    obtain ⟨h5, h6⟩ := inss_inj xs ys r q (fun z hz => hx z (by simp [hz])) (fun z hz => hy z (by simp [hz])) (by simpa using hl) hB.2
    refine ⟨?_, h6⟩
    rw [h5]
    congr 1
    cases x; cases y
    simp_all

theorem enc_inj (a b : Int) (ts us : List ByteArray) (xs ys : List S41) (s t : Int) (hs : 0 ≤ s) (ht : 0 ≤ t) (hx : ∀ x ∈ xs, okI x = true) (hy : ∀ x ∈ ys, okI x = true) (h : enc a ts xs s = enc b us ys t) : a = b ∧ ts = us ∧ xs = ys ∧ s = t := by
  unfold enc at h
  simp only [List.append_assoc, List.cons_append, List.nil_append, List.cons.injEq, true_and] at h
  obtain ⟨h0, h⟩ := h
  obtain ⟨h1, h⟩ := put_inj _ _ _ _ h
  obtain ⟨h2, h⟩ := put_inj _ _ _ _ h
  obtain ⟨h3, h⟩ := txts_inj _ _ _ _ h2 h
  obtain ⟨h4, h⟩ := put_inj _ _ _ _ h
  have h5 := inss_inj xs ys [] [] hx hy h4 (by simpa using h)
  exact ⟨h0, h3, h5.1, toNat_inj hs ht h1⟩

/-! The bytes are bytes. -/
theorem put_bytes (n : Nat) : ∀ b ∈ put n, 0 ≤ b ∧ b ≤ 255 := by
  induction n using Nat.strongRecOn with
  | _ n ih =>
    intro b hb
    by_cases hn : n < 128
    · rw [put_small hn, List.mem_singleton] at hb
      omega
    · rw [put_large hn, List.mem_cons] at hb
      rcases hb with hb | hb
      · omega
      · exact ih _ (by omega) b hb
theorem bytesOf_bytes (s : ByteArray) : ∀ b ∈ bytesOf s, 0 ≤ b ∧ b ≤ 255 := by
  intro b hb
  unfold bytesOf at hb
  obtain ⟨u, _, rfl⟩ := List.mem_map.1 hb
  have : u.toNat < 256 := UInt8.toNat_lt u
  omega
theorem enc_bytes (a : Int) (ts : List ByteArray) (xs : List S41) (s : Int) (ha : 0 ≤ a ∧ a ≤ 255) (hx : ∀ x ∈ xs, 0 ≤ x.f0 ∧ x.f0 ≤ 255) : ∀ b ∈ enc a ts xs s, 0 ≤ b ∧ b ≤ 255 := by
  intro b hb
  unfold enc at hb
  simp only [List.mem_append, List.mem_flatMap] at hb
  rcases hb with ((((hb | hb) | hb) | ⟨u, _, hb⟩) | hb) | ⟨x, hxm, hb⟩
  · simp only [List.mem_cons, List.not_mem_nil, or_false] at hb
    omega
  · exact put_bytes _ b hb
  · exact put_bytes _ b hb
  · unfold txt at hb
    rcases List.mem_append.1 hb with hb | hb
    · exact put_bytes _ b hb
    · exact bytesOf_bytes _ b hb
  · exact put_bytes _ b hb
  · unfold ins at hb
    have := hx x hxm
    simp only [List.mem_cons, List.mem_append] at hb
    rcases hb with hb | hb | hb
    · omega
    · split at hb
      · exact put_bytes _ b hb
      · simp at hb
    · split at hb
      · exact put_bytes _ b hb
      · simp at hb

theorem may_zero {kd : Int} {ts : List ByteArray} {xs : List S41} {st : Int} (h : may kd ts xs st = 0) : xs.length ≤ 32768 ∧ ts.length ≤ 8192 ∧ (kd = 1 ∨ kd = 2) ∧ right st true = true ∧ ∀ x ∈ xs, okI x = true := by
  unfold may at h
  split at h
  · cases h
  · rename_i h1
    split at h
    · cases h
    · rename_i h2
      simp only [not_or] at h1 h2
      refine ⟨by omega, by omega, Classical.byContradiction (fun e => h2.1 (not_or.1 e)), by simpa using h2.2.1, any_ok h2.2.2⟩

theorem encode_ok {kd : Int} {ts : List ByteArray} {xs : List S41} {st : Int} (h : (encode kd ts xs st).2 = 0) : may kd ts xs st = 0 ∧ (enc kd ts xs st).length ≤ 1048576 ∧ encode kd ts xs st = (enc kd ts xs st, 0) := by
  unfold encode at h ⊢
  by_cases hm : may kd ts xs st = 0
  · simp only [hm, if_true] at h ⊢
    by_cases hl : (enc kd ts xs st).length > 1048576
    · simp only [hl, if_true] at h
      cases h
    · simp only [hl, if_false]
      exact ⟨trivial, by omega, trivial⟩
  · simp only [hm, if_false] at h

end Go.Proofs.Ytmhmappdohddeaa.CodeC
