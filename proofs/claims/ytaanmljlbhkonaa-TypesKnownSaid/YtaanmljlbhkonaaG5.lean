/- Chapter 20: trees, and how large they are. -/
import Derived.Test.YtaanmljlbhkonaaG4
import Derived.Lib.Bytealg
import Derived.Laws.Externs
import Derived.Test.YtaanmljlbhkonaaG3
namespace Go.Proofs.Ytaanmljlbhkonaa.AD
open Go.Proofs
set_option linter.unusedVariables false
set_option linter.unusedSimpArgs false
set_option maxRecDepth 100000

inductive Ex where
  | mk (op : Int) (text : ByteArray) (args : List Ex)

theorem Ex.ind {motive : Ex → Prop} (h : ∀ o t xs, (∀ a, a ∈ xs → motive a) → motive (.mk o t xs)) (e : Ex) : motive e := by
  match e with
  | .mk o t xs => exact h o t xs fun a ha => Ex.ind h a
termination_by SizeOf.sizeOf e
decreasing_by
  have := List.sizeOf_lt_of_mem ha
  simp only [Ex.mk.sizeOf_spec]
  omega

mutual
def enc : Ex → PV
  | .mk o t xs => .agg [.int .u8 o, .str t, .list 3 (encs xs)]
def encs : List Ex → List PV
  | [] => []
  | a :: r => enc a :: encs r
end

theorem encs_map : ∀ l, encs l = l.map enc
  | [] => rfl
  | a :: r => by rw [encs, encs_map r]; rfl

mutual
def size : Ex → Int → Int
  | .mk _ _ xs, most => sizes xs most 1
def sizes : List Ex → Int → Int → Int
  | [], most, n => n
  | a :: r, most, n => if n ≤ most then sizes r most (n + size a (most - n)) else n
end

theorem sizes_le : (∀ e most, 1 ≤ size e most ∧ (size e most ≤ 1 ∨ size e most ≤ most + 1)) ∧ ∀ l most n, 1 ≤ n → n ≤ sizes l most n ∧ (sizes l most n ≤ n ∨ sizes l most n ≤ most + 1) := by
  have main : ∀ l, (∀ a, a ∈ l → ∀ most, 1 ≤ size a most ∧ (size a most ≤ 1 ∨ size a most ≤ most + 1)) → ∀ most n, 1 ≤ n → n ≤ sizes l most n ∧ (sizes l most n ≤ n ∨ sizes l most n ≤ most + 1) := by
    intro l
    induction l with
    | nil => intro _ most n h; simp only [sizes]; omega
    | cons a r ih =>
      intro hl most n h
      simp only [sizes]
      split
      · have := hl a (by simp) (most - n)
        have := ih (fun b hb => hl b (by simp [hb])) most (n + size a (most - n)) (by omega)
        omega
      · omega
  have one : ∀ e most, 1 ≤ size e most ∧ (size e most ≤ 1 ∨ size e most ≤ most + 1) := by
    intro e
    induction e using Ex.ind with
    | h o t xs ih => intro most; simp only [size]; have := main xs ih most 1 (by omega); omega
  exact ⟨one, fun l => main l fun a _ => one a⟩

/-- Nothing in it is larger than can be counted. -/
inductive Fits : Ex → Prop
  | mk (o : Int) (t : ByteArray) (xs : List Ex) : 0 ≤ o → (t.size : Int) ≤ 9223372036854775807 → (xs.length : Int) ≤ 9223372036854775807 → (∀ a, a ∈ xs → Fits a) → Fits (.mk o t xs)

theorem encs_get {xs : List Ex} {i : Nat} {a : Ex} (h : xs[i]? = some a) : (encs xs)[i]? = some (enc a) := by rw [encs_map, List.getElem?_map, h]; rfl
theorem encs_len (xs : List Ex) : (encs xs).length = xs.length := by rw [encs_map, List.length_map]

theorem Size_spec (e : Ex) : ∀ most : Int, -4611686018427387904 ≤ most → most ≤ 4611686018427387904 → pureF Try.prog 8 [.p (enc e), .p (.int .i64 most)] (.p (.int .i64 (size e most))) := by
  induction e using Ex.ind with
  | h o t xs ih =>
    intro most h1 h2
    refine pureF_of f8_ok fun H => ?_
    (conv => whnf)
    intro R hR
    have key : ∀ (rest : List Ex) (i : Nat) (n : Int), xs.drop i = rest → (i : Int) + 1 ≤ n → (n ≤ 1 ∨ n ≤ most + 1) → sizes rest most n = size (.mk o t xs) most → R [(1, .p (.int .i64 most)), (2, .ref (.l 0) 0), (5, .p (.int .i64 n)), (6, .p (.int .i64 i))] H [.cells [.p (.int .u8 o), .p (.str t), .p (.list 3 (encs xs))]] := by
      intro rest
      induction rest with
      | nil =>
        intro i n hd hn hb hs
        have hl := drop_nil hd
        have he := encs_len xs
        refine hR _ _ _ ?_
        (conv => whnf)
        refine splitB_f (decide_eq_false (by omega)) ?_
        exact ⟨by rw [← hs]; rfl, rfl⟩
      | cons a r ihr =>
        intro i n hd hn hb hs
        obtain ⟨hg, hd', hi⟩ := drop_cons hd
        have he := encs_len xs
        refine hR _ _ _ ?_
        (conv => whnf)
        refine splitB_t (decide_eq_true (by omega)) ?_
        (conv => whnf)
        refine splitB_dec (fun h3 => ?_) (fun h3 => ?_)
        · (conv => whnf)
          obtain ⟨o', t', xs'⟩ := a
          refine ⟨rfl, enc (.mk o' t' xs'), ⟨by omega, encs_get hg⟩, ?_⟩
          (conv => whnf)
          rw [IntWalk.i64_in _ (by omega)]
          refine CallVC.pureF (ih (.mk o' t' xs') (List.mem_of_getElem? hg) (most - n) (by omega) (by omega)) rfl ?_
          (conv => whnf)
          have hsz := sizes_le.1 (.mk o' t' xs') (most - n)
          rw [IntWalk.i64_in (↑i + 1) (by omega), IntWalk.i64_in _ (by omega)]
          refine ihr (i + 1) _ hd' (by omega) (by omega) ?_
          rw [← hs]
          simp only [sizes, if_pos h3]
        · exact ⟨by rw [← hs]; simp only [sizes, if_neg h3], rfl⟩
    exact key xs 0 1 rfl (by omega) (by omega) rfl
end Go.Proofs.Ytaanmljlbhkonaa.AD

namespace Go.Proofs.Ytaanmljlbhkonaa.AD
open Go.Proofs
set_option linter.unusedVariables false
set_option linter.unusedSimpArgs false
set_option maxRecDepth 100000

def letterB (n : Int) : Bool := (decide (97 ≤ n) && decide (n ≤ 122)) || (decide (65 ≤ n) && decide (n ≤ 90)) || decide (n = 95)
def digitB (n : Int) : Bool := decide (48 ≤ n) && decide (n ≤ 57)

theorem refLetter_spec (n : Int) : pureF Try.prog 57 [.p (.int .u8 n)] (.p (.bool (letterB n))) := by
  refine pureF_of f57_ok fun H => ?_
  repeat' ((conv => whnf); (first | refine splitB_t rfl ?_ | refine splitB_f rfl ?_ | refine splitB_dec (fun h => ?_) (fun h => ?_) | refine splitB_eq (fun h => ?_) (fun h => ?_) | refine splitB_ne (fun h => ?_) (fun h => ?_) | refine splitB_intro (fun h => ?_) (fun h => ?_)))
  all_goals exact ⟨congrArg (fun b => AV.p (PV.bool b)) (by rw [Bool.eq_iff_iff]; simp [letterB] <;> omega), rfl⟩
theorem letter_spec (n : Int) : pureF Try.prog 62 [.p (.int .u8 n)] (.p (.bool (letterB n))) := by
  refine pureF_of f62_ok fun H => ?_
  repeat' ((conv => whnf); (first | refine splitB_t rfl ?_ | refine splitB_f rfl ?_ | refine splitB_dec (fun h => ?_) (fun h => ?_) | refine splitB_eq (fun h => ?_) (fun h => ?_) | refine splitB_ne (fun h => ?_) (fun h => ?_) | refine splitB_intro (fun h => ?_) (fun h => ?_)))
  all_goals exact ⟨congrArg (fun b => AV.p (PV.bool b)) (by rw [Bool.eq_iff_iff]; simp [letterB] <;> omega), rfl⟩
theorem refDigit_spec (n : Int) : pureF Try.prog 58 [.p (.int .u8 n)] (.p (.bool (digitB n))) := by
  refine pureF_of f58_ok fun H => ?_
  repeat' ((conv => whnf); (first | refine splitB_t rfl ?_ | refine splitB_f rfl ?_ | refine splitB_dec (fun h => ?_) (fun h => ?_) | refine splitB_eq (fun h => ?_) (fun h => ?_) | refine splitB_ne (fun h => ?_) (fun h => ?_) | refine splitB_intro (fun h => ?_) (fun h => ?_)))
  all_goals exact ⟨congrArg (fun b => AV.p (PV.bool b)) (by rw [Bool.eq_iff_iff]; simp [digitB] <;> omega), rfl⟩
theorem digit_spec (n : Int) : pureF Try.prog 65 [.p (.int .u8 n)] (.p (.bool (digitB n))) := by
  refine pureF_of f65_ok fun H => ?_
  repeat' ((conv => whnf); (first | refine splitB_t rfl ?_ | refine splitB_f rfl ?_ | refine splitB_dec (fun h => ?_) (fun h => ?_) | refine splitB_eq (fun h => ?_) (fun h => ?_) | refine splitB_ne (fun h => ?_) (fun h => ?_) | refine splitB_intro (fun h => ?_) (fun h => ?_)))
  all_goals exact ⟨congrArg (fun b => AV.p (PV.bool b)) (by rw [Bool.eq_iff_iff]; simp [digitB] <;> omega), rfl⟩

def arityI (op : Int) : Int :=
  if op = 1 ∨ op = 2 ∨ op = 5 ∨ op = 7 ∨ op = 26 ∨ op = 27 then 0
  else if op = 3 ∨ op = 6 ∨ op = 8 ∨ op = 9 ∨ op = 25 then 1
  else if 1 ≤ op ∧ op ≤ 27 then 2 else -1
theorem Parts_spec (n : Int) : pureF Try.prog 35 [.p (.int .u8 n)] (.p (.int .i64 (arityI n))) := by
  refine pureF_of f35_ok fun H => ?_
  repeat' ((conv => whnf); (first | refine splitB_t rfl ?_ | refine splitB_f rfl ?_ | refine splitB_dec (fun h => ?_) (fun h => ?_) | refine splitB_eq (fun h => ?_) (fun h => ?_) | refine splitB_ne (fun h => ?_) (fun h => ?_) | refine splitB_intro (fun h => ?_) (fun h => ?_)))
  all_goals exact ⟨by simp_all [arityI] <;> omega, rfl⟩
theorem arity_spec (n : Int) (h0 : 0 ≤ n) : pureF Try.prog 43 [.p (.int .u8 n)] (.p (.int .i64 (arityI n))) := by
  refine pureF_of f43_ok fun H => ?_
  repeat' ((conv => whnf); (first | refine splitB_t rfl ?_ | refine splitB_f rfl ?_ | refine splitB_dec (fun h => ?_) (fun h => ?_) | refine splitB_eq (fun h => ?_) (fun h => ?_) | refine splitB_ne (fun h => ?_) (fun h => ?_) | refine splitB_intro (fun h => ?_) (fun h => ?_)))
  all_goals exact ⟨by simp_all [arityI] <;> omega, rfl⟩
end Go.Proofs.Ytaanmljlbhkonaa.AD

namespace Go.Proofs.Ytaanmljlbhkonaa.AD
open Go.Proofs
set_option linter.unusedVariables false
set_option linter.unusedSimpArgs false
set_option maxRecDepth 100000

def neS (s : ByteArray) : Bool := !(s.toList == (⟨#[]⟩ : ByteArray).toList)
def digitsB (s : ByteArray) : Bool := (s.data.toList.all fun c => digitB c.toNat) && neS s
def nameB (s : ByteArray) : Bool := (match s.data.toList with | [] => false | c :: r => letterB c.toNat && r.all fun c => letterB c.toNat || digitB c.toNat)

theorem sz_lt {s : ByteArray} {i : Nat} {r : List UInt8} {c : UInt8} (h : s.data.toList.drop i = c :: r) : i < s.size := by rw [ba_size]; exact (drop_cons h).2.2
theorem sz_le {s : ByteArray} {i : Nat} (h : s.data.toList.drop i = []) : s.size ≤ i := by rw [ba_size]; exact drop_nil h

theorem refDigits_spec (s : ByteArray) (hs : (s.size : Int) ≤ 9223372036854775807) : pureF Try.prog 37 [.p (.str s)] (.p (.bool (digitsB s))) := by
  refine pureF_of f37_ok fun H => ?_
  (conv => whnf)
  intro R hR
  have key : ∀ (rest : List UInt8) (i : Nat), s.data.toList.drop i = rest → ((rest.all fun c => digitB c.toNat) && neS s) = digitsB s → R [(0, .p (.str s)), (3, .p (.int .i64 i))] H [] := by
    intro rest
    induction rest with
    | nil =>
      intro i hd hq
      have hl := sz_le hd
      refine hR _ _ _ ?_
      (conv => whnf)
      refine splitB_f (decide_eq_false (by omega)) ?_
      exact ⟨by rw [← hq]; rfl, rfl⟩
    | cons c r ih =>
      intro i hd hq
      obtain ⟨hg, hd', _⟩ := drop_cons hd
      have hl := sz_lt hd
      refine hR _ _ _ ?_
      (conv => whnf)
      refine splitB_t (decide_eq_true (by omega)) ?_
      (conv => whnf)
      refine ⟨c, ⟨by omega, hg⟩, ?_⟩
      (conv => whnf)
      have bad : digitB c.toNat = false → digitsB s = false := fun h => by rw [← hq, List.all_cons, h]; rfl
      refine splitB_dec (fun h => ?_) (fun h => ?_)
      · (conv => whnf)
        refine splitB_t rfl ?_
        exact ⟨by rw [bad (by simp [digitB]; omega)], rfl⟩
      · (conv => whnf)
        refine ⟨c, ⟨by omega, hg⟩, ?_⟩
        (conv => whnf)
        refine splitB_dec (fun h2 => ?_) (fun h2 => ?_)
        · exact ⟨by rw [bad (by simp [digitB]; omega)], rfl⟩
        · (conv => whnf)
          rw [IntWalk.i64_in _ (by omega)]
          refine ih (i + 1) hd' ?_
          rw [← hq, List.all_cons, show digitB c.toNat = true by simp [digitB]; omega, Bool.true_and]
  exact key _ 0 rfl rfl

theorem digits_spec (s : ByteArray) (hs : (s.size : Int) ≤ 9223372036854775807) : pureF Try.prog 45 [.p (.str s)] (.p (.bool (digitsB s))) := by
  refine pureF_of f45_ok fun H => ?_
  (conv => whnf)
  intro R hR
  have key : ∀ (rest : List UInt8) (i : Nat), s.data.toList.drop i = rest → ((rest.all fun c => digitB c.toNat) && neS s) = digitsB s → R [(0, .p (.str s)), (5, .p (.int .i64 s.size)), (6, .p (.int .i64 i))] H [] := by
    intro rest
    induction rest with
    | nil =>
      intro i hd hq
      have hl := sz_le hd
      refine hR _ _ _ ?_
      (conv => whnf)
      refine splitB_f (decide_eq_false (by omega)) ?_
      exact ⟨by rw [← hq]; rfl, rfl⟩
    | cons c r ih =>
      intro i hd hq
      obtain ⟨hg, hd', _⟩ := drop_cons hd
      have hl := sz_lt hd
      refine hR _ _ _ ?_
      (conv => whnf)
      refine splitB_t (decide_eq_true (by omega)) ?_
      (conv => whnf)
      refine ⟨c, ⟨by omega, hg⟩, ?_⟩
      (conv => whnf)
      have bad : digitB c.toNat = false → digitsB s = false := fun h => by rw [← hq, List.all_cons, h]; rfl
      refine splitB_dec (fun h => ?_) (fun h => ?_)
      · (conv => whnf)
        refine splitB_t rfl ?_
        exact ⟨by rw [bad (by simp [digitB]; omega)], rfl⟩
      · (conv => whnf)
        refine ⟨c, ⟨by omega, hg⟩, ?_⟩
        (conv => whnf)
        refine splitB_dec (fun h2 => ?_) (fun h2 => ?_)
        · exact ⟨by rw [bad (by simp [digitB]; omega)], rfl⟩
        · (conv => whnf)
          rw [IntWalk.i64_in _ (by omega)]
          refine ih (i + 1) hd' ?_
          rw [← hq, List.all_cons, show digitB c.toNat = true by simp [digitB]; omega, Bool.true_and]
  exact key _ 0 rfl rfl

theorem neS_iff (s : ByteArray) : neS s = !s.data.toList.isEmpty := by
  unfold neS
  rw [ba_toList, ba_toList]
  cases s.data.toList <;> rfl

theorem refName_spec (s : ByteArray) (hs : (s.size : Int) ≤ 9223372036854775807) : pureF Try.prog 36 [.p (.str s)] (.p (.bool (nameB s))) := by
  refine pureF_of f36_ok fun H => ?_
  (conv => whnf)
  intro R hR
  have key : ∀ (rest : List UInt8) (i : Nat), s.data.toList.drop (i + 1) = rest → nameB s = (neS s && rest.all fun c => letterB c.toNat || digitB c.toNat) → R [(0, .p (.str s)), (3, .p (.int .i64 (i + 1 : Nat)))] H [] := by
    intro rest
    induction rest with
    | nil =>
      intro i hd hq
      have hl := sz_le hd
      refine hR _ _ _ ?_
      (conv => whnf)
      refine splitB_f (decide_eq_false (by omega)) ?_
      exact ⟨by rw [hq, List.all_nil, Bool.and_true]; rfl, rfl⟩
    | cons c r ih =>
      intro i hd hq
      obtain ⟨hg, hd', _⟩ := drop_cons hd
      have hl := sz_lt hd
      rw [List.all_cons] at hq
      refine hR _ _ _ ?_
      (conv => whnf)
      refine splitB_t (decide_eq_true (by omega)) ?_
      (conv => whnf)
      refine ⟨c, ⟨by omega, hg⟩, ?_⟩
      (conv => whnf)
      refine CallVC.pureF (refLetter_spec _) rfl ?_
      (conv => whnf)
      refine splitB_intro (fun h => ?_) (fun h => ?_)
      · have h : letterB ↑c.toNat = false := by simpa using h
        rw [h, Bool.false_or] at hq
        (conv => whnf)
        refine splitB_f (beq_eq_false_iff_ne.2 (by omega)) ?_
        (conv => whnf)
        refine ⟨c, ⟨by omega, hg⟩, ?_⟩
        (conv => whnf)
        refine CallVC.pureF (refDigit_spec _) rfl ?_
        (conv => whnf)
        refine splitB_intro (fun h2 => ?_) (fun h2 => ?_)
        · have h2 : digitB ↑c.toNat = false := by simpa using h2
          exact ⟨by rw [hq, h2, Bool.false_and, Bool.and_false], rfl⟩
        · have h2 : digitB ↑c.toNat = true := by simpa using h2
          (conv => whnf)
          rw [IntWalk.i64_in _ (by omega)]
          exact ih (i + 1) hd' (by rw [hq, h2, Bool.true_and])
      · have h : letterB ↑c.toNat = true := by simpa using h
        (conv => whnf)
        refine splitB_f rfl ?_
        (conv => whnf)
        rw [IntWalk.i64_in _ (by omega)]
        exact ih (i + 1) hd' (by rw [hq, h, Bool.true_or, Bool.true_and])
  cases hd : s.data.toList with
  | nil =>
    have hl : s.size = 0 := by rw [ba_size, hd]; rfl
    refine hR _ _ _ ?_
    (conv => whnf)
    refine splitB_f (decide_eq_false (by omega)) ?_
    refine ⟨congrArg (fun b => AV.p (PV.bool b)) ?_, rfl⟩
    show neS s = _
    rw [neS_iff, nameB, hd]
    rfl
  | cons c r =>
    have hl : 0 < s.size := by rw [ba_size, hd]; simp
    have hne : neS s = true := by rw [neS_iff, hd]; rfl
    have hq : nameB s = (letterB c.toNat && r.all fun c => letterB c.toNat || digitB c.toNat) := by rw [nameB, hd]
    refine hR _ _ _ ?_
    (conv => whnf)
    refine splitB_t (decide_eq_true (by omega)) ?_
    (conv => whnf)
    refine ⟨c, ⟨by omega, by rw [hd]; rfl⟩, ?_⟩
    (conv => whnf)
    refine CallVC.pureF (refLetter_spec _) rfl ?_
    (conv => whnf)
    refine splitB_intro (fun h => ?_) (fun h => ?_)
    · have h : letterB ↑c.toNat = false := by simpa using h
      (conv => whnf)
      refine splitB_t rfl ?_
      (conv => whnf)
      refine splitB_t rfl ?_
      exact ⟨by rw [hq, h, Bool.false_and], rfl⟩
    · have h : letterB ↑c.toNat = true := by simpa using h
      (conv => whnf)
      refine splitB_f rfl ?_
      (conv => whnf)
      refine key r 0 (by rw [hd]; rfl) ?_
      rw [hq, h, hne]

/-! ### the program's own -/
theorem nameFn_spec (n : Int) : pureF Try.prog 64 [.p (.int .u8 n)] (.p (.bool (letterB n || digitB n))) := by
  refine pureF_of f64_ok fun H => ?_
  (conv => whnf)
  refine CallVC.pureF (letter_spec _) rfl ?_
  (conv => whnf)
  refine splitB_intro (fun h => ?_) (fun h => ?_)
  · exact ⟨by rw [h, Bool.true_or], rfl⟩
  · (conv => whnf)
    refine CallVC.pureF (digit_spec _) rfl ?_
    exact ⟨by rw [h, Bool.false_or], rfl⟩

/-- How far a text goes on with such bytes. -/
def whileL (p : UInt8 → Bool) : List UInt8 → Nat
  | [] => 0
  | c :: r => if p c then whileL p r + 1 else 0

theorem while_spec (s : ByteArray) (hs : (s.size : Int) ≤ 9223372036854775807) (f : Nat) (hf : enters Try.prog f = true) (p : UInt8 → Bool) (hp : ∀ c : UInt8, pureF Try.prog f [.p (.int .u8 c.toNat)] (.p (.bool (p c)))) (id : Nat) (more : List AV) (H : List Ob) (hH : H[id]? = some (.cells (.p (.str s) :: more))) (i : Nat) (hi : i ≤ s.size) :
    callA Try.prog 63 [.ref (.b id) 0, .p (.int .i64 i), .p (.fn (.func f))] H fun r H' => r = .p (.int .i64 (i + whileL p (s.data.toList.drop i) : Nat)) ∧ H' = H := by
  refine sound f63_ok ?_
  (conv => whnf)
  intro R hR
  have key : ∀ (rest : List UInt8) (j : Nat), s.data.toList.drop j = rest → j ≤ s.size → j + whileL p rest = i + whileL p (s.data.toList.drop i) → R [(0, .ref (.b id) 0), (1, .p (.int .i64 j)), (2, .p (.fn (.func f)))] H [] := by
    intro rest
    induction rest with
    | nil =>
      intro j hd hj hq
      have hl := sz_le hd
      refine hR _ _ _ ?_
      (conv => whnf)
      refine atK_in _ _ _ _ hH ?_
      (conv => whnf)
      refine splitB_f (decide_eq_false (by omega)) ?_
      (conv => whnf)
      exact ⟨by rw [← hq]; rfl, rfl⟩
    | cons c r ih =>
      intro j hd hj hq
      obtain ⟨hg, hd', _⟩ := drop_cons hd
      have hl := sz_lt hd
      refine hR _ _ _ ?_
      (conv => whnf)
      refine atK_in _ _ _ _ hH ?_
      (conv => whnf)
      refine splitB_t (decide_eq_true (by omega)) ?_
      (conv => whnf)
      refine atK_in _ _ _ _ hH ?_
      (conv => whnf)
      refine ⟨c, ⟨by omega, hg⟩, ?_⟩
      (conv => whnf)
      refine ⟨hf, ?_⟩
      refine CallVC.pureF (hp c) rfl ?_
      (conv => whnf)
      refine splitB_intro (fun h => ?_) (fun h => ?_)
      · (conv => whnf)
        rw [IntWalk.i64_in _ (by omega)]
        refine ih (j + 1) hd' (by omega) ?_
        rw [← hq, whileL, if_pos h]; omega
      · (conv => whnf)
        rw [whileL, h] at hq
        exact ⟨by rw [← hq]; rfl, rfl⟩
  exact key _ i rfl hi rfl

theorem whileL_all (p : UInt8 → Bool) : ∀ l : List UInt8, decide (whileL p l = l.length) = l.all p
  | [] => rfl
  | c :: r => by
    rw [whileL, List.all_cons]
    cases h : p c with
    | false => simp
    | true => rw [if_pos rfl, ← whileL_all p r]; simp

theorem Name_spec (s : ByteArray) (hs : (s.size : Int) ≤ 9223372036854775807) : pureF Try.prog 44 [.p (.str s)] (.p (.bool (nameB s))) := by
  refine pureF_of f44_ok fun H => ?_
  cases hd : s.data.toList with
  | nil =>
    have he : s.toList = (⟨#[]⟩ : ByteArray).toList := by rw [ba_ext, hd]
    (conv => whnf)
    refine splitB_t (by rw [he]; exact beq_self_eq_true _) ?_
    (conv => whnf)
    refine splitB_t rfl ?_
    exact ⟨by rw [nameB, hd], rfl⟩
  | cons c r =>
    have he : (s.toList == (⟨#[]⟩ : ByteArray).toList) = false := by rw [ba_toList, hd, ba_toList]; rfl
    have hl : s.size = r.length + 1 := by rw [ba_size, hd]; rfl
    have hq : nameB s = (letterB c.toNat && r.all fun c => letterB c.toNat || digitB c.toNat) := by rw [nameB, hd]
    (conv => whnf)
    refine splitB_f he ?_
    (conv => whnf)
    refine ⟨c, ⟨by omega, by rw [hd]; rfl⟩, ?_⟩
    (conv => whnf)
    refine CallVC.pureF (letter_spec _) rfl ?_
    (conv => whnf)
    refine splitB_intro (fun h => ?_) (fun h => ?_)
    · have h : letterB ↑c.toNat = false := by simpa using h
      exact ⟨by rw [hq, h, Bool.false_and], rfl⟩
    · have h : letterB ↑c.toNat = true := by simpa using h
      (conv => whnf)
      refine CallVC.pure (e := .int .i64 (1 + whileL (fun c => letterB c.toNat || digitB c.toNat) (s.data.toList.drop 1) : Nat)) (while_spec s hs 64 (by kernel_rfl) (fun c => letterB c.toNat || digitB c.toNat) (fun c => nameFn_spec _) H.length [.p (.int .i64 0)] _ ?_ 1 (by omega)) ?_
      · simp [flat, Ob.close, AV.closes, AV.close]
      · refine ⟨congrArg (fun b => AV.p (PV.bool b)) ?_, rfl⟩
        rw [hq, h, Bool.true_and, ← whileL_all, hd, List.drop_succ_cons, List.drop_zero, Bool.eq_iff_iff]
        simp
        omega

end Go.Proofs.Ytaanmljlbhkonaa.AD

namespace Go.Proofs.Ytaanmljlbhkonaa.AD
open Go.Proofs
set_option linter.unusedVariables false
set_option linter.unusedSimpArgs false
set_option maxRecDepth 100000

theorem ixs_ok (s : ByteArray) (c : UInt8) : XOk Try.prog 87 [.str s, .int .u8 c.toNat] (.int .i64 (Lib.indexByte s.data.toList c)) := by
  refine ⟨fun M w xs hl hx => ⟨.int .i64 (Lib.indexByte s.data.toList c), ?_, .int _ _⟩⟩
  have hl2 : xs.size = 2 := hl
  have h0 := hx 0 xs[0] _ (Array.getElem?_eq_getElem (by omega)) rfl
  have h1 := hx 1 xs[1] _ (Array.getElem?_eq_getElem (by omega)) rfl
  have he : xs = #[.string s, .int .u8 c.toNat] := by
    have e0 : xs[0] = .string s := by generalize xs[0] = x at h0; cases h0; rfl
    have e1 : xs[1] = .int .u8 c.toNat := by generalize xs[1] = x at h1; cases h1; rfl
    apply Array.ext
    · exact hl2
    · intro i h1 h2
      match i, h1, h2 with
      | 0, _, _ => exact e0
      | 1, _, _ => exact e1
  subst he
  rw [run_callFunc_extern Try.func87 (by kernel_rfl) (by kernel_rfl) (by kernel_rfl) (e := Extern.BytealgIndexByte.indexByte) (by kernel_rfl), Lib.run_indexByteString]
  simp [Result.andThen]

theorem IndexByte_spec (s : ByteArray) (c : UInt8) : pureF Try.prog 82 [.p (.str s), .p (.int .u8 c.toNat)] (.p (.int .i64 (Lib.indexByte s.data.toList c))) := by
  refine pureF_of f82_ok fun H => ?_
  (conv => whnf)
  exact ⟨_, ixs_ok s c, rfl, rfl⟩

theorem Index_spec (s : ByteArray) (c : UInt8) : pureF Try.prog 78 [.p (.str s), .p (.str ⟨#[c]⟩)] (.p (.int .i64 (Lib.indexByte s.data.toList c))) := by
  refine pureF_of f78_ok fun H => ?_
  (conv => whnf)
  refine splitB_f rfl ?_
  (conv => whnf)
  refine splitB_eq (fun h => ?_) (fun h => ?_)
  · have h2 : s.data.toList = [c] := by rw [← ba_toList, ← h, ba_toList]
    exact ⟨by rw [h2]; simp [Lib.indexByte], rfl⟩
  (conv => whnf)
  refine splitB_t rfl ?_
  (conv => whnf)
  refine ⟨c, ⟨by omega, rfl⟩, ?_⟩
  (conv => whnf)
  refine CallVC.pureF (IndexByte_spec s c) rfl ?_
  exact ⟨rfl, rfl⟩

/-- A text cut where a byte first stands. -/
def cutAt (s : ByteArray) (c : UInt8) : ByteArray × ByteArray × Bool :=
  if 0 ≤ Lib.indexByte s.data.toList c then (s.extract 0 (Lib.indexByte s.data.toList c).toNat, s.extract ((Lib.indexByte s.data.toList c) + 1).toNat s.size, true) else (s, ⟨#[]⟩, false)

theorem indexByte_range (c : UInt8) : ∀ l : List UInt8, -1 ≤ Lib.indexByte l c ∧ Lib.indexByte l c < l.length
  | [] => by simp [Lib.indexByte]
  | b :: l => by
    have := indexByte_range c l
    simp only [Lib.indexByte]
    split
    · simp
    · split
      · simp; omega
      · simp at *; omega

theorem liteCut_spec (s : ByteArray) (hs : (s.size : Int) ≤ 9223372036854775807) (c : UInt8) : pureF Try.prog 66 [.p (.str s), .p (.str ⟨#[c]⟩)] (.p (.tup [.str (cutAt s c).1, .str (cutAt s c).2.1, .bool (cutAt s c).2.2])) := by
  have hr := indexByte_range c s.data.toList
  rw [← ba_size] at hr
  refine pureF_of f66_ok fun H => ?_
  (conv => whnf)
  refine CallVC.pureF (Index_spec s c) rfl ?_
  generalize hj : Lib.indexByte s.data.toList c = j at hr
  have hc : cutAt s c = if 0 ≤ j then (s.extract 0 j.toNat, s.extract (j + 1).toNat s.size, true) else (s, ⟨#[]⟩, false) := by rw [cutAt, hj]
  (conv => whnf)
  refine splitB_dec (fun h => ?_) (fun h => ?_)
  · rw [if_pos (show 0 ≤ j by omega)] at hc
    (conv => whnf)
    refine ⟨⟨by omega, by omega⟩, ?_⟩
    (conv => whnf)
    rw [show ((({ data := #[c] } : ByteArray).size : Nat) : Int) = 1 from rfl, IntWalk.i64_in (j + 1) (by omega)]
    refine ⟨⟨by omega, by omega⟩, ?_⟩
    exact ⟨by rw [hc], rfl⟩
  · rw [if_neg (show ¬ 0 ≤ j by omega)] at hc
    exact ⟨by rw [hc], rfl⟩

theorem Cut_spec (s : ByteArray) (hs : (s.size : Int) ≤ 9223372036854775807) (c : UInt8) : pureF Try.prog 46 [.p (.str s), .p (.str ⟨#[c]⟩)] (.p (.tup [.str (cutAt s c).1, .str (cutAt s c).2.1, .bool (cutAt s c).2.2])) := by
  refine pureF_of f46_ok fun H => ?_
  (conv => whnf)
  refine CallVC.pureF (liteCut_spec s hs c) rfl ?_
  exact ⟨rfl, rfl⟩

/-! ### a number with a dot -/
def decB (s : ByteArray) : Bool := (cutAt s 46).2.2 && (digitsB (cutAt s 46).1 && digitsB (cutAt s 46).2.1)

theorem indexByte_at (c : UInt8) (l : List UInt8) : ∀ (r : List UInt8) (i : Nat), l.drop i = r → (∀ k, k < i → l[k]? ≠ some c) → Lib.indexByte l c = (if Lib.indexByte r c = -1 then -1 else Lib.indexByte r c + i) := by
  intro r i hd hn
  have main : ∀ (p r : List UInt8), (∀ k, k < p.length → p[k]? ≠ some c) → Lib.indexByte (p ++ r) c = (if Lib.indexByte r c = -1 then -1 else Lib.indexByte r c + p.length) := by
    intro p
    induction p with
    | nil => intro r _; simp
    | cons b p ih =>
      intro r h
      have hb : (b == c) = false := by
        have := h 0 (by simp)
        simpa using this
      have := ih r fun k hk => by have := h (k + 1) (by simp; omega); simpa using this
      have hrange := indexByte_range c r
      simp only [List.cons_append, Lib.indexByte, hb, this]
      by_cases h2 : Lib.indexByte r c = -1
      · simp [h2]
      · rw [if_neg h2]
        simp only [beq_iff_eq, Bool.false_eq_true, if_false, h2, List.length_cons]
        rw [if_neg (by omega)]
        omega
  by_cases hl : i ≤ l.length
  · have := main (l.take i) (l.drop i) fun k hk => by
      rw [List.getElem?_take, if_pos (by simp at hk; omega)]; exact hn k (by simp at hk; omega)
    rw [List.take_append_drop, hd] at this
    rw [this]
    simp [Nat.min_eq_left hl]
  · have hr : r = [] := by rw [← hd]; exact List.drop_eq_nil_iff.2 (by omega)
    have := main l [] fun k hk => hn k (by omega)
    rw [List.append_nil] at this
    rw [this, hr]; rfl

theorem Dec_spec (s : ByteArray) (hs : (s.size : Int) ≤ 9223372036854775807) : pureF Try.prog 38 [.p (.str s)] (.p (.bool (decB s))) := by
  refine pureF_of f38_ok fun H => ?_
  (conv => whnf)
  intro R hR
  have key : ∀ (rest : List UInt8) (i : Nat), s.data.toList.drop i = rest → (∀ k, k < i → s.data.toList[k]? ≠ some 46) → R [(0, .p (.str s)), (3, .p (.int .i64 i))] H [] := by
    intro rest
    induction rest with
    | nil =>
      intro i hd hn
      have hl := sz_le hd
      have hx := indexByte_at 46 _ _ _ hd hn
      refine hR _ _ _ ?_
      (conv => whnf)
      refine splitB_f (decide_eq_false (by omega)) ?_
      refine ⟨?_, rfl⟩
      have : Lib.indexByte s.data.toList 46 = -1 := by rw [hx]; rfl
      rw [decB, cutAt, this]
      rfl
    | cons c r ih =>
      intro i hd hn
      obtain ⟨hg, hd', _⟩ := drop_cons hd
      have hl := sz_lt hd
      refine hR _ _ _ ?_
      (conv => whnf)
      refine splitB_t (decide_eq_true (by omega)) ?_
      (conv => whnf)
      refine ⟨c, ⟨by omega, hg⟩, ?_⟩
      (conv => whnf)
      refine splitB_eq (fun h => ?_) (fun h => ?_)
      · have hc : c = 46 := by
          apply UInt8.toNat_inj.1
          have : (c.toNat : Int) = 46 := h
          have h46 : (46 : UInt8).toNat = 46 := rfl
          omega
        subst hc
        have hx : Lib.indexByte s.data.toList 46 = i := by
          rw [indexByte_at 46 _ _ _ hd hn]
          have : Lib.indexByte ((46 : UInt8) :: r) 46 = 0 := by simp [Lib.indexByte]
          rw [this]; simp
        have hcut : cutAt s 46 = (s.extract 0 i, s.extract (i + 1) s.size, true) := by
          rw [cutAt, hx, if_pos (by omega)]
          simp
        have hsz : ∀ a b, ((s.extract a b).size : Int) ≤ 9223372036854775807 := fun a b => by
          have : (s.extract a b).size ≤ s.size := by simp [ByteArray.size_extract]; omega
          omega
        have hdec : decB s = (digitsB (s.extract 0 i) && digitsB (s.extract (i + 1) s.size)) := by rw [decB, hcut]; rfl
        (conv => whnf)
        refine ⟨⟨by omega, by omega⟩, ?_⟩
        (conv => whnf)
        refine CallVC.pureF (refDigits_spec _ (hsz _ _)) rfl ?_
        (conv => whnf)
        refine splitB_intro (fun h2 => ?_) (fun h2 => ?_)
        · have h2 : digitsB (s.extract 0 i) = true := h2
          (conv => whnf)
          rw [IntWalk.i64_in _ (by omega)]
          refine ⟨⟨by omega, by omega⟩, ?_⟩
          (conv => whnf)
          refine CallVC.pureF (refDigits_spec _ (hsz _ _)) rfl ?_
          exact ⟨by rw [hdec, h2, Bool.true_and]; rfl, rfl⟩
        · have h2 : digitsB (s.extract 0 i) = false := h2
          exact ⟨by rw [hdec, h2, Bool.false_and], rfl⟩
      · (conv => whnf)
        rw [IntWalk.i64_in _ (by omega)]
        refine ih (i + 1) hd' fun k hk => ?_
        rcases Nat.lt_or_ge k i with h2 | h2
        · exact hn k h2
        · have : k = i := by omega
          subst this
          rw [hg]
          intro e
          cases e
          exact h rfl
  exact key _ 0 rfl fun k hk => absurd hk (by omega)

end Go.Proofs.Ytaanmljlbhkonaa.AD

namespace Go.Proofs.Ytaanmljlbhkonaa.AD
open Go.Proofs
set_option linter.unusedVariables false
set_option linter.unusedSimpArgs false
set_option maxRecDepth 100000

/-! ### texts as rows of bytes -/
def ofL (l : List UInt8) : ByteArray := ⟨l.toArray⟩
theorem ofL_data (l : List UInt8) : (ofL l).data.toList = l := by simp [ofL]
theorem ba_eq {a b : ByteArray} (h : a.data.toList = b.data.toList) : a = b := by
  cases a with | mk x => cases b with | mk y =>
    have : x = y := Array.ext' h
    subst this; rfl
theorem ofL_of (s : ByteArray) : ofL s.data.toList = s := ba_eq (ofL_data _)
theorem ext_data (s : ByteArray) (i j : Nat) : (s.extract i j).data.toList = (s.data.toList.take j).drop i := by
  rw [ByteArray.data_extract, Array.toList_extract, List.extract_eq_take_drop, List.drop_take]
theorem ext_tail (s : ByteArray) (i : Nat) : (s.extract i s.size).data.toList = s.data.toList.drop i := by
  rw [ext_data, List.take_of_length_le (by rw [← ba_size]; exact Nat.le_refl _)]
theorem ext_ofL (s : ByteArray) (i j : Nat) : s.extract i j = ofL ((s.data.toList.take j).drop i) := ba_eq (by rw [ext_data, ofL_data])
theorem ext_part (s : ByteArray) (i n : Nat) {l : List UInt8} (h : s.data.toList.drop i = l) : s.extract i (i + n) = ofL (l.take n) := by
  rw [ext_ofL, List.drop_take, ← h]; congr 2; omega
theorem get_of_drop {s : ByteArray} {i k : Nat} {l : List UInt8} {c : UInt8} (h : s.data.toList.drop i = l) (hc : l[k]? = some c) : s.data.toList[i + k]? = some c := by
  rw [← h, List.getElem?_drop] at hc; exact hc

/-! ### blanks -/
def skipF : Bool → List UInt8 → Nat
  | _, [] => 0
  | true, c :: r => if c = 10 then skipF false r + 1 else skipF true r + 1
  | false, c :: r => if c = 35 then skipF true r + 1 else if c = 32 ∨ c = 9 ∨ c = 13 ∨ c = 10 then skipF false r + 1 else 0

theorem skipF_le : ∀ (l : List UInt8) (b : Bool), skipF b l ≤ l.length
  | [], b => by cases b <;> simp [skipF]
  | c :: r, b => by
    have h1 := skipF_le r true
    have h2 := skipF_le r false
    cases b
    · simp only [skipF, List.length_cons]; split
      · omega
      · split <;> omega
    · simp only [skipF, List.length_cons]; split <;> omega

theorem u8_of {c : UInt8} (d : UInt8) {k : Int} (h : (c.toNat : Int) = k) (hk : (d.toNat : Int) = k) : c = d := UInt8.toNat_inj.1 (by omega)
theorem u8_ne {c : UInt8} (d : UInt8) {k : Int} (h : ¬ (c.toNat : Int) = k) (hk : (d.toNat : Int) = k) : c ≠ d := fun e => h (by rw [e, hk])

theorem skip_rem : ∀ r : List UInt8, (Lib.indexByte r 10 < 0 → skipF true r = r.length) ∧ (0 ≤ Lib.indexByte r 10 → skipF true r = (Lib.indexByte r 10).toNat + skipF false (r.drop (Lib.indexByte r 10).toNat))
  | [] => by simp [Lib.indexByte, skipF]
  | c :: r => by
    obtain ⟨h1, h2⟩ := skip_rem r
    have hr := indexByte_range 10 r
    by_cases hc : c = 10
    · subst hc
      have e : Lib.indexByte ((10 : UInt8) :: r) 10 = 0 := by simp [Lib.indexByte]
      rw [e]
      refine ⟨fun h => by omega, fun _ => ?_⟩
      simp [skipF]
    · have hb : (c == 10) = false := by simpa using hc
      by_cases hj : Lib.indexByte r 10 = -1
      · have e : Lib.indexByte (c :: r) 10 = -1 := by simp [Lib.indexByte, hb, hj]
        rw [e]
        refine ⟨fun _ => ?_, fun h => by omega⟩
        simp only [skipF, if_neg hc, List.length_cons]
        rw [h1 (by omega)]
      · have e : Lib.indexByte (c :: r) 10 = Lib.indexByte r 10 + 1 := by simp [Lib.indexByte, hb, hj]
        rw [e]
        refine ⟨fun h => by omega, fun _ => ?_⟩
        simp only [skipF, if_neg hc]
        rw [h2 (by omega), show (Lib.indexByte r 10 + 1).toNat = (Lib.indexByte r 10).toNat + 1 by omega, List.drop_succ_cons]
        omega

/-- A scanner. -/
def scn (s : ByteArray) (p : Int) : List Ob := [.cells [.p (.str s), .p (.int .i64 p)]]

end Go.Proofs.Ytaanmljlbhkonaa.AD

namespace Go.Proofs.Ytaanmljlbhkonaa.AD
open Go.Proofs
set_option linter.unusedVariables false
set_option linter.unusedSimpArgs false
set_option maxRecDepth 100000

def preB (p l : List UInt8) : Bool := decide (l.take p.length = p)

theorem preB_len {p l : List UInt8} (h : preB p l = true) : p.length ≤ l.length := by
  rw [preB, decide_eq_true_eq] at h
  have := congrArg List.length h
  rw [List.length_take] at this
  omega

def cutP (s p : ByteArray) : ByteArray × Bool := if preB p.data.toList s.data.toList then (ofL (s.data.toList.drop p.data.toList.length), true) else (s, false)
/-! ### signs -/
def twos : List ByteArray := [⟨#[45, 62]⟩, ⟨#[38, 38]⟩, ⟨#[124, 124]⟩, ⟨#[61, 61]⟩, ⟨#[33, 61]⟩, ⟨#[60, 61]⟩, ⟨#[62, 61]⟩, ⟨#[126, 61]⟩]
def ones : ByteArray := ⟨#[40, 41, 123, 125, 59, 33, 60, 62, 43, 45, 42, 47, 37, 94, 46, 36, 64, 38, 44, 61]⟩
def signL (l : List UInt8) : Nat :=
  if twos.any (fun p => preB p.data.toList l) then 2 else match l with
    | c :: _ => if 0 ≤ Lib.indexByte ones.data.toList c then 1 else 0
    | [] => 0

end Go.Proofs.Ytaanmljlbhkonaa.AD

namespace Go.Proofs.Ytaanmljlbhkonaa.AD
open Go.Proofs
set_option linter.unusedVariables false
set_option linter.unusedSimpArgs false
set_option maxRecDepth 100000

abbrev dig (c : UInt8) : Bool := digitB c.toNat
abbrev lett (c : UInt8) : Bool := letterB c.toNat
abbrev nam (c : UInt8) : Bool := letterB c.toNat || digitB c.toNat
def tokP (k : Int) (t : ByteArray) (a e : Int) : PV := .agg [.int .u8 k, .str t, .int .i64 a, .int .i64 e]

theorem whileL_le (p : UInt8 → Bool) : ∀ l, whileL p l ≤ l.length
  | [] => Nat.le_refl _
  | c :: r => by
    have := whileL_le p r
    simp only [whileL, List.length_cons]
    split <;> omega

theorem while_at (s : ByteArray) (hs : s.size ≤ 65536) (f : Nat) (hf : enters Try.prog f = true) (p : UInt8 → Bool) (hp : ∀ c : UInt8, pureF Try.prog f [.p (.int .u8 c.toNat)] (.p (.bool (p c)))) (q : Int) (rest lo : List Ob) (i : Nat) (hi : i ≤ s.size) {K : AV → List Ob → List Ob → Prop}
    (k : K (.p (.int .i64 (i + whileL p (s.data.toList.drop i) : Nat))) (scn s q ++ rest) lo) : CallVC Try.prog 63 [.ref (.b 0) 0, .p (.int .i64 i), .p (.fn (.func f))] (scn s q ++ rest) lo K :=
  CallVC.pure (while_spec s (by omega) f hf p hp 0 [.p (.int .i64 q)] _ rfl i hi) k

def ofS : List UInt8 := [45, 111, 102]
/-- What stands behind a number: is it '-of', and no name goes on? -/
def ofB (l : List UInt8) : Bool := preB ofS l && (match l.drop 3 with | [] => true | a :: _ => !lett a && !dig a)
def numL (l : List UInt8) : Int × Nat × Nat :=
  match l.drop (whileL dig l) with
  | c :: d :: _ => if c = 46 ∧ dig d = true then (3, whileL dig l + 1 + whileL dig (l.drop (whileL dig l + 1)), whileL dig l + 1 + whileL dig (l.drop (whileL dig l + 1))) else if ofB (l.drop (whileL dig l)) = true then (5, whileL dig l, whileL dig l + 3) else (2, whileL dig l, whileL dig l)
  | _ => (2, whileL dig l, whileL dig l)

end Go.Proofs.Ytaanmljlbhkonaa.AD

namespace Go.Proofs.Ytaanmljlbhkonaa.AD
open Go.Proofs
set_option linter.unusedVariables false
set_option linter.unusedSimpArgs false
set_option maxRecDepth 100000

/-- What is read: a token (its kind, its text, how long it is), or what is wrong, and where. -/
inductive NR where
  | tok (k : Int) (t : ByteArray) (len : Nat)
  | err (o : Nat) (e : Int)
/-- What stands behind a backslash. -/
inductive PR where
  | ok (bs : List UInt8) (n : Nat)
  | cut
  | bad

def oct (c : UInt8) : Bool := decide (48 ≤ c.toNat) && decide (c.toNat ≤ 55)
def spc (c : UInt8) : Bool := decide (c = 32) || (decide (c = 9) || decide (c = 13))
def octV (c : UInt8) : Nat := c.toNat - 48
/-- So many octal digits more, behind those that make v. -/
def digF : Nat → Nat → List UInt8 → PR
  | 0, v, _ => if 255 < v then .bad else .ok [UInt8.ofNat v] 3
  | m + 1, v, [] => .cut
  | m + 1, v, c :: r => if oct c = false then .bad else digF m (v * 8 + octV c) r
def pieceP : List UInt8 → PR
  | [] => .cut
  | c :: r => if c = 34 ∨ c = 92 then .ok [c] 1 else if c = 110 then .ok [10] 1 else if c = 116 then .ok [9] 1 else if c = 114 then .ok [13] 1 else if c = 10 then .ok [] (1 + whileL spc r) else digF 3 0 (c :: r)

/-- The rest of a string, from a place on. -/
def strP (f : Nat) (l : List UInt8) (i : Nat) (b : List UInt8) : NR :=
  match f with
  | 0 => .err 0 141
  | f + 1 => match l with
    | [] => .err 0 141
    | c :: r => if c = 10 then .err 0 141 else if c = 34 then .tok 4 (ofL b) (i + 1) else if c = 92 then (match pieceP r with
        | .ok bs n => strP f (r.drop n) (i + 1 + n) (b ++ bs)
        | .cut => .err 0 141
        | .bad => .err i 142) else strP f r (i + 1) (b ++ [c])

/-- More fuel than bytes changes nothing. -/
theorem strP_fuel : ∀ (f g : Nat) (l : List UInt8) (i : Nat) (b : List UInt8), l.length < f → l.length < g → strP f l i b = strP g l i b
  | 0, g, l, i, b, h, _ => absurd h (by omega)
  | f + 1, 0, l, i, b, _, h => absurd h (by omega)
  | f + 1, g + 1, [], i, b, _, _ => rfl
  | f + 1, g + 1, c :: r, i, b, h1, h2 => by
    simp only [List.length_cons] at h1 h2
    simp only [strP]
    split
    · rfl
    · split
      · rfl
      · split
        · split
          · rename_i bs n hp
            have hl : (r.drop n).length ≤ r.length := by rw [List.length_drop]; omega
            exact strP_fuel f g _ _ _ (by omega) (by omega)
          · rfl
          · rfl
        · exact strP_fuel f g r _ _ (by omega) (by omega)

def zeroTok : PV := .agg [.int .u8 0, .str ⟨#[]⟩, .int .i64 0, .int .i64 0]
def resN (p : Nat) : NR → PV
  | .tok k t len => .tup [tokP k t p (p + len : Nat), .int .i64 0, .int .i64 0]
  | .err o e => .tup [zeroTok, .int .i64 (p + o : Nat), .int .i64 e]

def bsP (b : List UInt8) : List PV := b.map fun c => .int .u8 c.toNat
theorem bsP_bytes : ∀ b : List UInt8, intBytes (bsP b) = some b
  | [] => rfl
  | c :: r => by simp [bsP, intBytes]; exact bsP_bytes r
theorem ofBytes_ofL (b : List UInt8) : (⟨b.toArray⟩ : ByteArray) = ofL b := rfl

end Go.Proofs.Ytaanmljlbhkonaa.AD

namespace Go.Proofs.Ytaanmljlbhkonaa.AD
open Go.Proofs
set_option linter.unusedVariables false
set_option linter.unusedSimpArgs false
set_option maxRecDepth 100000

theorem or8 (v d : Nat) (hv : v < 512) (hd : d < 8) : IntKind.i64.wrap (BitVec.ofInt IntKind.i64.bits (IntKind.i64.wrap ((v : Int) * 2 ^ (min (Int.toNat 3) IntKind.i64.bits))) ||| BitVec.ofInt IntKind.i64.bits ((d : Nat) : Int)).toNat = ((v * 8 + d : Nat) : Int) := by
  have e1 : ((v : Int) * 2 ^ (min (Int.toNat 3) IntKind.i64.bits)) = ((v * 8 : Nat) : Int) := by
    have : min (Int.toNat 3) IntKind.i64.bits = 3 := by decide
    rw [this]; push_cast; rfl
  rw [e1, IntWalk.i64_in ((v * 8 : Nat) : Int) (by omega)]
  have e2 : (BitVec.ofInt IntKind.i64.bits ((v * 8 : Nat) : Int) ||| BitVec.ofInt IntKind.i64.bits ((d : Nat) : Int)).toNat = v * 8 + d := by
    rw [BitVec.toNat_or]
    simp only [BitVec.ofInt_natCast, BitVec.toNat_ofNat, IntKind.bits]
    rw [Nat.mod_eq_of_lt (by omega), Nat.mod_eq_of_lt (by omega), Nat.mul_comm v]
    have := Nat.two_pow_add_eq_or_of_lt (i := 3) (b := d) (by omega) v
    rw [show (2 : Nat) ^ 3 = 8 by rfl] at this
    exact this.symm
  rw [e2]
  exact IntWalk.i64_in _ (by omega)

theorem wrap8' (u : Int) : IntKind.u8.wrap u = u % 256 := by simp [IntKind.wrap, IntKind.bits, IntKind.signed]
theorem octV_lt {c : UInt8} (h : oct c = true) : 48 ≤ c.toNat ∧ octV c < 8 ∧ IntKind.i64.wrap (IntKind.u8.wrap ((c.toNat : Int) - 48)) = ((octV c : Nat) : Int) := by
  simp only [oct, Bool.and_eq_true, decide_eq_true_eq] at h
  have h1 : octV c = c.toNat - 48 := rfl
  refine ⟨h.1, by omega, ?_⟩
  rw [wrap8', h1, IntWalk.i64_in _ (by omega)]
  omega

def strO (g : Nat) (b : List UInt8) : List Ob := [.cells [.p (.int .u8 0), .p (.str ⟨#[]⟩), .p (.int .i64 0), .p (.int .i64 0)], .buf g 1 (bsP b)]

end Go.Proofs.Ytaanmljlbhkonaa.AD

namespace Go.Proofs.Ytaanmljlbhkonaa.AD
open Go.Proofs
set_option linter.unusedVariables false
set_option linter.unusedSimpArgs false
set_option maxRecDepth 100000

def nextP : List UInt8 → NR
  | [] => .err 0 140
  | c :: r => if lett c = true then .tok 1 (ofL ((c :: r).take (whileL nam (c :: r)))) (whileL nam (c :: r))
    else if dig c = true then .tok (numL (c :: r)).1 (ofL ((c :: r).take (numL (c :: r)).2.1)) (numL (c :: r)).2.2
    else if c = 34 then strP (r.length + 1) r 1 []
    else if 0 < signL (c :: r) then .tok 6 (ofL ((c :: r).take (signL (c :: r)))) (signL (c :: r)) else .err 0 140

theorem signL_le (c : UInt8) (r : List UInt8) : signL (c :: r) ≤ (c :: r).length := by
  unfold signL
  split
  · rename_i h
    rw [List.any_eq_true] at h
    obtain ⟨p, hp, h⟩ := h
    have := preB_len h
    have h2 : p.data.toList.length = 2 := by
      simp only [twos, List.mem_cons, List.mem_nil_iff, or_false] at hp
      rcases hp with rfl | rfl | rfl | rfl | rfl | rfl | rfl | rfl <;> rfl
    omega
  · simp only [List.length_cons]; split <;> omega

end Go.Proofs.Ytaanmljlbhkonaa.AD

namespace Go.Proofs.Ytaanmljlbhkonaa.AD
open Go.Proofs
set_option linter.unusedVariables false
set_option linter.unusedSimpArgs false
set_option maxRecDepth 100000

theorem digF_len : ∀ (m v : Nat) (l : List UInt8) (bs : List UInt8) (n : Nat), digF m v l = .ok bs n → m ≤ l.length ∧ n = 3
  | 0, v, l, bs, n, h => by
    simp only [digF] at h
    split at h
    · cases h
    · cases h; exact ⟨by omega, rfl⟩
  | m + 1, v, [], bs, n, h => by cases h
  | m + 1, v, c :: r, bs, n, h => by
    simp only [digF] at h
    split at h
    · cases h
    · obtain ⟨h1, h2⟩ := digF_len m _ r bs n h
      exact ⟨by simpa using h1, h2⟩
theorem pieceP_len {l bs : List UInt8} {n : Nat} (h : pieceP l = .ok bs n) : 1 ≤ n ∧ n ≤ l.length := by
  cases l with
  | nil => cases h
  | cons c r =>
    simp only [pieceP] at h
    have hw := whileL_le spc r
    simp only [List.length_cons]
    split at h
    · cases h; omega
    split at h
    · cases h; omega
    split at h
    · cases h; omega
    split at h
    · cases h; omega
    split at h
    · cases h; omega
    · obtain ⟨h1, rfl⟩ := digF_len 3 0 _ bs n h
      simp only [List.length_cons] at h1
      omega
theorem strP_len : ∀ (f : Nat) (l : List UInt8) (i : Nat) (b : List UInt8) (k : Int) (t : ByteArray) (len : Nat), strP f l i b = .tok k t len → i < len ∧ len ≤ i + l.length
  | 0, l, i, b, k, t, len, h => by cases h
  | f + 1, [], i, b, k, t, len, h => by cases h
  | f + 1, c :: r, i, b, k, t, len, h => by
    simp only [strP] at h
    simp only [List.length_cons]
    split at h
    · cases h
    split at h
    · cases h; omega
    split at h
    · split at h
      · rename_i bs n hp
        obtain ⟨p1, p2⟩ := pieceP_len hp
        obtain ⟨h1, h2⟩ := strP_len f _ _ _ k t len h
        rw [List.length_drop] at h2
        omega
      · cases h
      · cases h
    · obtain ⟨h1, h2⟩ := strP_len f r _ _ k t len h
      omega
theorem strP_err : ∀ (f : Nat) (l : List UInt8) (i : Nat) (b : List UInt8) (o : Nat) (e : Int), strP f l i b = .err o e → (e = 141 ∨ e = 142) ∧ (o = 0 ∨ (i ≤ o ∧ o < i + l.length))
  | 0, l, i, b, o, e, h => by cases h; exact ⟨.inl rfl, .inl rfl⟩
  | f + 1, [], i, b, o, e, h => by cases h; exact ⟨.inl rfl, .inl rfl⟩
  | f + 1, c :: r, i, b, o, e, h => by
    simp only [strP] at h
    simp only [List.length_cons]
    split at h
    · cases h; exact ⟨.inl rfl, .inl rfl⟩
    split at h
    · cases h
    split at h
    · split at h
      · rename_i bs n hp
        obtain ⟨p1, p2⟩ := pieceP_len hp
        obtain ⟨h1, h2⟩ := strP_err f _ _ _ o e h
        rw [List.length_drop] at h2
        exact ⟨h1, by omega⟩
      · cases h; exact ⟨.inl rfl, .inl rfl⟩
      · cases h; exact ⟨.inr rfl, .inr (by omega)⟩
    · obtain ⟨h1, h2⟩ := strP_err f r _ _ o e h
      exact ⟨h1, by omega⟩

theorem numL_len (c : UInt8) (r : List UInt8) (h : dig c = true) : 1 ≤ (numL (c :: r)).2.1 ∧ (numL (c :: r)).2.1 ≤ (numL (c :: r)).2.2 ∧ (numL (c :: r)).2.2 ≤ (c :: r).length := by
  have h1 : 1 ≤ whileL dig (c :: r) := by simp only [whileL, h, if_true]; omega
  have hw := whileL_le dig (c :: r)
  unfold numL
  generalize whileL dig (c :: r) = n at h1 hw ⊢
  have hw2 := whileL_le dig ((c :: r).drop (n + 1))
  rw [List.length_drop] at hw2
  split
  · rename_i a b m hm
    have hl : ((c :: r).drop n).length = m.length + 2 := by rw [hm]; rfl
    rw [List.length_drop] at hl
    split
    · simp only; omega
    · split
      · rename_i ho
        have hp : preB ofS ((c :: r).drop n) = true := by
          cases hb : preB ofS ((c :: r).drop n) with
          | true => rfl
          | false => rw [ofB, hb] at ho; cases ho
        have := preB_len hp
        rw [List.length_drop] at this
        have h3 : ofS.length = 3 := rfl
        simp only; omega
      · simp only; omega
  · simp only; omega

theorem nextP_len (c : UInt8) (r : List UInt8) {k : Int} {t : ByteArray} {len : Nat} (h : nextP (c :: r) = .tok k t len) : 1 ≤ len ∧ len ≤ (c :: r).length := by
  simp only [nextP] at h
  split at h
  · rename_i hl
    cases h
    have h1 : nam c = true := by simp only [nam]; rw [show letterB c.toNat = lett c from rfl, hl]; rfl
    have hw := whileL_le nam (c :: r)
    have : 1 ≤ whileL nam (c :: r) := by simp only [whileL, h1, if_true]; omega
    exact ⟨this, hw⟩
  split at h
  · rename_i hl
    cases h
    obtain ⟨h1, h2, h3⟩ := numL_len c r hl
    exact ⟨by omega, h3⟩
  split at h
  · obtain ⟨h1, h2⟩ := strP_len _ _ _ _ _ _ _ h
    simp only [List.length_cons]; omega
  split at h
  · cases h
    exact ⟨by omega, signL_le c r⟩
  · cases h
theorem nextP_err (c : UInt8) (r : List UInt8) {o : Nat} {e : Int} (h : nextP (c :: r) = .err o e) : (e = 140 ∨ e = 141 ∨ e = 142) ∧ o ≤ r.length := by
  simp only [nextP] at h
  split at h
  · cases h
  split at h
  · cases h
  split at h
  · obtain ⟨h1, h2⟩ := strP_err _ _ _ _ _ _ h
    exact ⟨by omega, by omega⟩
  split at h
  · cases h
  · cases h; exact ⟨.inl rfl, by omega⟩

structure Tok where
  k : Int
  t : ByteArray
  a : Nat
  e : Nat
def tkP (x : Tok) : PV := tokP x.k x.t x.a x.e
inductive TR where
  | ok (l : List Tok)
  | err (p : Nat) (e : Int)
/-- Behind blanks. -/
def tokG : Nat → List UInt8 → Nat → List Tok → TR
  | 0, _, _, _ => .err 0 0
  | f + 1, [], q, acc => .ok acc
  | f + 1, c :: r, q, acc => if acc.length = 8192 then .err q 3 else match nextP (c :: r) with
    | .err o e => .err (q + o) e
    | .tok k t len => tokG f (((c :: r).drop len).drop (skipF false ((c :: r).drop len))) (q + len + skipF false ((c :: r).drop len)) (acc ++ [⟨k, t, q, q + len⟩])
def tokensR (s : ByteArray) : TR := if 65536 < s.size then .err 0 3 else tokG (s.size + 1) (s.data.toList.drop (skipF false s.data.toList)) (skipF false s.data.toList) []
def resT : TR → PV
  | .ok l => .tup [.list 4 (l.map tkP), .int .i64 0, .int .i64 0]
  | .err p e => .tup [.nils, .int .i64 p, .int .i64 e]

theorem tkP_flat (l : List Tok) : ∀ e, e ∈ l.map tkP → Flat e := fun e he => by
  obtain ⟨x, _, rfl⟩ := List.mem_map.1 he
  exact .agg _ fun c hc => by
    simp only [List.mem_cons, List.mem_nil_iff, or_false] at hc
    rcases hc with rfl | rfl | rfl | rfl
    · exact .int _ _
    · exact .str _
    · exact .int _ _
    · exact .int _ _

end Go.Proofs.Ytaanmljlbhkonaa.AD

namespace Go.Proofs.Ytaanmljlbhkonaa.AD
open Go.Proofs
set_option linter.unusedVariables false
set_option linter.unusedSimpArgs false
set_option maxRecDepth 100000

def scO (s : ByteArray) (p : Int) : Ob := .cells [.p (.str s), .p (.int .i64 p)]
/-- What Tokens has at hand while the loop goes on. -/
def tkO (L : Nat) (r : Loop) (s : ByteArray) (p : Int) (g n : Nat) (acc : List Tok) : List Ob :=
  [.cells [.p .nils], .cells [.p (.int .i64 0)], .cells [.p (.int .i64 0)], .cells [.view (.l 5) g 4 n], scO s p, .buf g 4 (acc.map tkP), .cells [.ref (.l 4) 0], .loop L r [2, 3, 4, 5, 6] [.ref (.l 0) 0, .ref (.l 1) 0, .ref (.l 2) 0, .ref (.l 3) 0, .ref (.l 4) 0] .ready]

end Go.Proofs.Ytaanmljlbhkonaa.AD

namespace Go.Proofs.Ytaanmljlbhkonaa.AD
open Go.Proofs
set_option linter.unusedVariables false
set_option linter.unusedSimpArgs false
set_option maxRecDepth 100000

def sepC (h : UInt8) : Prop := h = 32 ∨ h = 9 ∨ h = 13 ∨ h = 10
/-- Nothing, or what begins with a blank. -/
def sepH (x : List UInt8) : Prop := ∀ h y, x = h :: y → sepC h

theorem sep_nam {h : UInt8} (k : sepC h) : lett h = false ∧ dig h = false ∧ nam h = false ∧ h ≠ 46 ∧ h ≠ 45 := by
  rcases k with rfl | rfl | rfl | rfl <;> decide

theorem whileL_app {p : UInt8 → Bool} {x : List UInt8} (hx : ∀ h y, x = h :: y → p h = false) : ∀ l : List UInt8, whileL p (l ++ x) = whileL p l
  | [] => by
    cases x with
    | nil => rfl
    | cons h y => simp only [List.nil_append, whileL, hx h y rfl]; rfl
  | c :: r => by simp only [List.cons_append, whileL, whileL_app hx r]
theorem whileL_lt {p : UInt8 → Bool} {x : List UInt8} : ∀ l : List UInt8, whileL p l < l.length → whileL p (l ++ x) = whileL p l
  | [], h => by simp at h
  | c :: r, h => by
    simp only [List.cons_append, whileL] at h ⊢
    split
    · rename_i hc
      rw [if_pos hc, List.length_cons] at h
      rw [whileL_lt r (by omega)]
    · rfl
theorem whileL_take {p : UInt8 → Bool} : ∀ (l : List UInt8) (m : Nat), whileL p l ≤ m → whileL p (l.take m) = whileL p l
  | [], m, _ => by simp
  | c :: r, 0, h => by
    simp only [whileL] at h ⊢
    split at h
    · omega
    · rename_i hc; simp [whileL, hc]
  | c :: r, m + 1, h => by
    simp only [List.take_succ_cons, whileL] at h ⊢
    split
    · rename_i hc
      rw [if_pos hc] at h
      rw [whileL_take r m (by omega)]
    · rfl

theorem preB_app {p : List UInt8} (hp : ∀ c, c ∈ p → ¬ sepC c) {x : List UInt8} (hx : sepH x) (l : List UInt8) : preB p (l ++ x) = preB p l := by
  rcases Nat.lt_or_ge l.length p.length with h | h
  · have h1 : preB p l = false := by
      cases hb : preB p l with
      | false => rfl
      | true => have := preB_len hb; omega
    rw [h1]
    cases hb : preB p (l ++ x) with
    | false => rfl
    | true =>
      exfalso
      have hl := preB_len hb
      cases x with
      | nil => simp at hl; omega
      | cons g y =>
        rw [preB, decide_eq_true_eq] at hb
        have h2 : p[l.length]? = some g := by
          rw [← hb, List.getElem?_take, if_pos h, List.getElem?_append_right (Nat.le_refl _)]
          simp
        exact hp g (List.mem_of_getElem? h2) (hx g y rfl)
  · unfold preB
    rw [List.take_append_of_le_length h]
theorem preB_take {p : List UInt8} {l : List UInt8} {m : Nat} (h : p.length ≤ m) : preB p (l.take m) = preB p l := by
  unfold preB
  rw [List.take_take, Nat.min_eq_left h]

theorem ofS_sep : ∀ c, c ∈ ofS → ¬ sepC c := by
  intro c hc
  simp only [ofS, List.mem_cons, List.mem_nil_iff, or_false] at hc
  rcases hc with rfl | rfl | rfl <;> (unfold sepC; decide)
theorem twos_sep : ∀ p, p ∈ twos → (∀ c, c ∈ p.data.toList → ¬ sepC c) ∧ p.data.toList.length = 2 := by
  intro p hp
  simp only [twos, List.mem_cons, List.mem_nil_iff, or_false] at hp
  have h2 : ∀ a b : UInt8, ¬ sepC a → ¬ sepC b → (∀ c, c ∈ ([a, b] : List UInt8) → ¬ sepC c) := fun a b ha hb c hc => by
    simp only [List.mem_cons, List.mem_nil_iff, or_false] at hc
    rcases hc with rfl | rfl
    · exact ha
    · exact hb
  rcases hp with rfl | rfl | rfl | rfl | rfl | rfl | rfl | rfl <;> exact ⟨h2 _ _ (by unfold sepC; decide) (by unfold sepC; decide), rfl⟩

theorem ofB_app {x : List UInt8} (hx : sepH x) (m : List UInt8) : ofB (m ++ x) = ofB m := by
  unfold ofB
  rw [preB_app ofS_sep hx]
  cases hb : preB ofS m with
  | false => rfl
  | true =>
    have hl := preB_len hb
    have h3 : ofS.length = 3 := rfl
    rw [List.drop_append_of_le_length (by omega)]
    cases hm : m.drop 3 with
    | nil =>
      rw [List.nil_append]
      cases x with
      | nil => rfl
      | cons h y =>
        obtain ⟨k1, k2, _⟩ := sep_nam (hx h y rfl)
        simp [k1, k2]
    | cons a r => rfl

theorem numL_app {x : List UInt8} (hx : sepH x) (l : List UInt8) : numL (l ++ x) = numL l := by
  have hw : ∀ l, whileL dig (l ++ x) = whileL dig l := fun l => whileL_app (fun h y e => (sep_nam (hx h y e)).2.1) l
  have hle := whileL_le dig l
  unfold numL
  rw [hw l]
  generalize whileL dig l = n at hle ⊢
  rw [List.drop_append_of_le_length hle]
  cases hm : l.drop n with
  | nil =>
    rw [List.nil_append]
    cases x with
    | nil => rfl
    | cons h y =>
      cases y with
      | nil => rfl
      | cons d m =>
        have k := (sep_nam (hx h _ rfl)).2.2.2.1
        simp only
        rw [if_neg (fun e => k e.1)]
        have : ofB (h :: d :: m) = false := by
          have := ofB_app hx []
          rw [List.nil_append] at this
          rw [this]; rfl
        exact if_neg (by rw [this]; simp)
  | cons c m1 =>
    cases m1 with
    | nil =>
      cases x with
      | nil => rfl
      | cons h y =>
        have k := (sep_nam (hx h _ rfl)).2.1
        simp only [List.cons_append, List.nil_append]
        rw [if_neg (fun e => by rw [k] at e; cases e.2)]
        have : ofB (c :: h :: y) = false := by
          have := ofB_app hx [c]
          rw [List.cons_append, List.nil_append] at this
          rw [this]
          cases hb : preB ofS [c] with
          | false => rw [ofB, hb]; rfl
          | true => have := preB_len hb; simp [ofS] at this
        exact if_neg (by rw [this]; simp)
    | cons d m =>
      have hn1 : n + 1 ≤ l.length := by
        have := congrArg List.length hm
        rw [List.length_drop] at this
        simp only [List.length_cons] at this
        omega
      simp only [List.cons_append]
      have ho : ofB (c :: d :: (m ++ x)) = ofB (c :: d :: m) := ofB_app hx (c :: d :: m)
      rw [List.drop_append_of_le_length hn1, hw]
      simp only [ho]

theorem numL_take (l : List UInt8) : numL (l.take (numL l).2.2) = numL l := by
  have hle := whileL_le dig l
  generalize hn : whileL dig l = n at hle
  have ht : ∀ m, n ≤ m → whileL dig (l.take m) = n := fun m h => by rw [whileL_take l m (by omega), hn]
  have plain : numL l = (2, n, n) → numL (l.take n) = (2, n, n) := fun _ => by
    unfold numL
    rw [ht n (Nat.le_refl _), List.drop_take, Nat.sub_self, List.take_zero]
  have hdef : numL l = match l.drop n with
      | c :: d :: _ => if c = 46 ∧ dig d = true then (3, n + 1 + whileL dig (l.drop (n + 1)), n + 1 + whileL dig (l.drop (n + 1))) else if ofB (l.drop n) = true then (5, n, n + 3) else (2, n, n)
      | _ => (2, n, n) := by unfold numL; rw [hn] <;> rfl
  cases hm : l.drop n with
  | nil => rw [hm] at hdef; rw [hdef]; exact plain hdef
  | cons c m1 =>
    cases m1 with
    | nil => rw [hm] at hdef; rw [hdef]; exact plain hdef
    | cons d m =>
      rw [hm] at hdef
      simp only at hdef
      by_cases h46 : c = 46 ∧ dig d = true
      · rw [if_pos h46] at hdef
        rw [hdef]
        simp only
        have hd1 : l.drop (n + 1) = d :: m := by rw [← List.drop_drop, hm]; rfl
        generalize hw : whileL dig (l.drop (n + 1)) = w
        have hw1 : 1 ≤ w := by rw [← hw, hd1]; simp only [whileL, h46.2, if_true]; omega
        unfold numL
        rw [ht _ (by omega), List.drop_take, hm, show n + 1 + w - n = (w - 1) + 1 + 1 by omega, List.take_succ_cons, List.take_succ_cons]
        simp only
        rw [if_pos h46, List.drop_take, show n + 1 + w - (n + 1) = w by omega, whileL_take _ _ (by omega), hw]
      · rw [if_neg h46] at hdef
        by_cases ho : ofB (c :: d :: m) = true
        · rw [if_pos ho] at hdef
          rw [hdef]
          simp only
          have hp : preB ofS (c :: d :: m) = true := by
            cases hb : preB ofS (c :: d :: m) with
            | true => rfl
            | false => rw [ofB, hb] at ho; cases ho
          have hp2 := hp
          rw [preB, decide_eq_true_eq] at hp2
          have h3 : (c :: d :: m).take 3 = ofS := hp2
          unfold numL
          rw [ht _ (by omega), List.drop_take, hm, show n + 3 - n = 3 by omega, h3]
          simp only [ofS]
          rw [if_neg (show ¬ ((45 : UInt8) = 46 ∧ dig 111 = true) by decide)]
          exact if_pos (show ofB [45, 111, 102] = true by decide)
        · rw [if_neg ho] at hdef
          rw [hdef]
          exact plain hdef

end Go.Proofs.Ytaanmljlbhkonaa.AD

namespace Go.Proofs.Ytaanmljlbhkonaa.AD
open Go.Proofs
set_option linter.unusedVariables false
set_option linter.unusedSimpArgs false
set_option maxRecDepth 100000

theorem digF_app {x : List UInt8} : ∀ (m v : Nat) (l bs : List UInt8) (n : Nat), digF m v l = .ok bs n → digF m v (l ++ x) = .ok bs n
  | 0, v, l, bs, n, h => by simp only [digF] at h ⊢; exact h
  | m + 1, v, [], bs, n, h => by cases h
  | m + 1, v, c :: r, bs, n, h => by
    simp only [List.cons_append, digF] at h ⊢
    split at h
    · cases h
    · rename_i ho
      rw [if_neg ho]
      exact digF_app m _ r bs n h
theorem digF_take : ∀ (m v : Nat) (l bs : List UInt8) (n M : Nat), digF m v l = .ok bs n → m ≤ M → digF m v (l.take M) = .ok bs n
  | 0, v, l, bs, n, M, h, _ => by simp only [digF] at h ⊢; exact h
  | m + 1, v, [], bs, n, M, h, _ => by cases h
  | m + 1, v, c :: r, bs, n, 0, h, hm => by omega
  | m + 1, v, c :: r, bs, n, M + 1, h, hm => by
    simp only [List.take_succ_cons, digF] at h ⊢
    split at h
    · cases h
    · rename_i ho
      rw [if_neg ho]
      exact digF_take m _ r bs n M h (by omega)

theorem pieceP_app {x r bs : List UInt8} {n : Nat} (h : pieceP r = .ok bs n) (hn : n < r.length) : pieceP (r ++ x) = .ok bs n := by
  cases r with
  | nil => cases h
  | cons c r =>
    simp only [List.cons_append, pieceP, List.length_cons] at h hn ⊢
    split at h
    · rename_i k; rw [if_pos k]; exact h
    rename_i k1; rw [if_neg k1]
    split at h
    · rename_i k; rw [if_pos k]; exact h
    rename_i k2; rw [if_neg k2]
    split at h
    · rename_i k; rw [if_pos k]; exact h
    rename_i k3; rw [if_neg k3]
    split at h
    · rename_i k; rw [if_pos k]; exact h
    rename_i k4; rw [if_neg k4]
    split at h
    · rename_i k; rw [if_pos k]
      cases h
      rw [whileL_lt r (by omega)]
    · rename_i k5; rw [if_neg k5]
      exact digF_app 3 0 (c :: r) bs n h
theorem pieceP_take {r bs : List UInt8} {n M : Nat} (h : pieceP r = .ok bs n) (hn : n < M) : pieceP (r.take M) = .ok bs n := by
  cases r with
  | nil => cases h
  | cons c r =>
    obtain ⟨M, rfl⟩ : ∃ k, M = k + 1 := ⟨M - 1, by omega⟩
    simp only [List.take_succ_cons, pieceP] at h ⊢
    split at h
    · rename_i k; rw [if_pos k]; exact h
    rename_i k1; rw [if_neg k1]
    split at h
    · rename_i k; rw [if_pos k]; exact h
    rename_i k2; rw [if_neg k2]
    split at h
    · rename_i k; rw [if_pos k]; exact h
    rename_i k3; rw [if_neg k3]
    split at h
    · rename_i k; rw [if_pos k]; exact h
    rename_i k4; rw [if_neg k4]
    split at h
    · rename_i k; rw [if_pos k]
      cases h
      rw [whileL_take r M (by omega)]
    · rename_i k5; rw [if_neg k5]
      obtain ⟨_, h3⟩ := digF_len 3 0 _ bs n h
      have := digF_take 3 0 (c :: r) bs n (M + 1) h (by omega)
      rwa [List.take_succ_cons] at this

theorem strP_app {x : List UInt8} : ∀ (f : Nat) (l : List UInt8) (i : Nat) (b : List UInt8) (k : Int) (t : ByteArray) (len : Nat), strP f l i b = .tok k t len → strP f (l ++ x) i b = .tok k t len
  | 0, l, i, b, k, t, len, h => by cases h
  | f + 1, [], i, b, k, t, len, h => by cases h
  | f + 1, c :: r, i, b, k, t, len, h => by
    simp only [List.cons_append, strP] at h ⊢
    split at h
    · cases h
    rename_i k1; rw [if_neg k1]
    split at h
    · rename_i k2; rw [if_pos k2]; exact h
    rename_i k2; rw [if_neg k2]
    split at h
    · rename_i k3; rw [if_pos k3]
      split at h
      · rename_i bs n hp
        obtain ⟨p1, p2⟩ := pieceP_len hp
        have hl := strP_len _ _ _ _ _ _ _ h
        rw [List.length_drop] at hl
        rw [pieceP_app hp (by omega)]
        simp only
        rw [List.drop_append_of_le_length p2]
        exact strP_app f _ _ _ k t len h
      · cases h
      · cases h
    · rename_i k3; rw [if_neg k3]
      exact strP_app f r _ _ k t len h
theorem strP_take : ∀ (f : Nat) (l : List UInt8) (i : Nat) (b : List UInt8) (k : Int) (t : ByteArray) (len : Nat), strP f l i b = .tok k t len → strP f (l.take (len - i)) i b = .tok k t len
  | 0, l, i, b, k, t, len, h => by cases h
  | f + 1, [], i, b, k, t, len, h => by cases h
  | f + 1, c :: r, i, b, k, t, len, h => by
    have hl0 := strP_len _ _ _ _ _ _ _ h
    obtain ⟨M, hM⟩ : ∃ m, len - i = m + 1 := ⟨len - i - 1, by omega⟩
    rw [hM, List.take_succ_cons]
    simp only [strP] at h ⊢
    split at h
    · cases h
    rename_i k1; rw [if_neg k1]
    split at h
    · rename_i k2; rw [if_pos k2]; exact h
    rename_i k2; rw [if_neg k2]
    split at h
    · rename_i k3; rw [if_pos k3]
      split at h
      · rename_i bs n hp
        obtain ⟨p1, p2⟩ := pieceP_len hp
        have hl := strP_len _ _ _ _ _ _ _ h
        rw [pieceP_take hp (by omega)]
        simp only
        have q := strP_take f _ _ _ k t len h
        rw [List.drop_take, show M - n = len - (i + 1 + n) by omega]
        exact q
      · cases h
      · cases h
    · rename_i k3; rw [if_neg k3]
      have q := strP_take f r _ _ k t len h
      rw [show M = len - (i + 1) by omega]
      exact q

theorem twos_any {l l' : List UInt8} (h : ∀ p, p ∈ twos → preB p.data.toList l' = preB p.data.toList l) : (twos.any fun p => preB p.data.toList l') = twos.any fun p => preB p.data.toList l := by
  rw [Bool.eq_iff_iff, List.any_eq_true, List.any_eq_true]
  exact ⟨fun ⟨p, h1, h2⟩ => ⟨p, h1, by rw [← h p h1]; exact h2⟩, fun ⟨p, h1, h2⟩ => ⟨p, h1, by rw [h p h1]; exact h2⟩⟩
theorem signL_app {x : List UInt8} (hx : sepH x) (c : UInt8) (r : List UInt8) : signL (c :: r ++ x) = signL (c :: r) := by
  unfold signL
  rw [twos_any fun p hp => preB_app (twos_sep p hp).1 hx (c :: r)]
  rfl
theorem signL_take (c : UInt8) (r : List UInt8) (h : 0 < signL (c :: r)) : signL ((c :: r).take (signL (c :: r))) = signL (c :: r) := by
  generalize hn : signL (c :: r) = n at h
  cases ha : twos.any fun p => preB p.data.toList (c :: r) with
  | true =>
    have : n = 2 := by rw [← hn, signL, ha]; rfl
    subst this
    have h2 : (twos.any fun p => preB p.data.toList ((c :: r).take 2)) = true := by
      rw [twos_any fun p hp => preB_take (by rw [(twos_sep p hp).2]; exact Nat.le_refl _)]
      exact ha
    unfold signL
    rw [h2]; rfl
  | false =>
    have h1 : n = if 0 ≤ Lib.indexByte ones.data.toList c then 1 else 0 := by rw [← hn, signL, ha]; rfl
    have hone : n = 1 := by
      rw [h1] at h ⊢
      split at h
      · rename_i k; rw [if_pos k]
      · omega
    subst hone
    have h2 : (twos.any fun p => preB p.data.toList [c]) = false := by
      rw [List.any_eq_false]
      intro p hp hb
      have := preB_len hb
      rw [(twos_sep p hp).2] at this
      simp at this
    show signL [c] = 1
    unfold signL
    rw [h2]
    exact h1.symm

theorem signL_not (c : UInt8) (r : List UInt8) (h : c = 35 ∨ sepC c) : lett c = false ∧ dig c = false ∧ c ≠ 34 ∧ signL (c :: r) = 0 := by
  have hs : c = 35 ∨ c = 32 ∨ c = 9 ∨ c = 13 ∨ c = 10 := h
  have ht : (twos.any fun p => preB p.data.toList (c :: r)) = false := by
    rw [List.any_eq_false]
    intro p hp hb
    rw [preB, decide_eq_true_eq] at hb
    have hl := (twos_sep p hp).2
    rw [hl] at hb
    simp only [twos, List.mem_cons, List.mem_nil_iff, or_false] at hp
    have hh : p.data.toList.head? = some c := by rw [← hb]; rfl
    rcases hp with rfl | rfl | rfl | rfl | rfl | rfl | rfl | rfl <;> (simp at hh; subst hh; revert hs; decide)
  have h1 : lett c = false ∧ dig c = false ∧ c ≠ 34 := by rcases hs with rfl | rfl | rfl | rfl | rfl <;> decide
  refine ⟨h1.1, h1.2.1, h1.2.2, ?_⟩
  unfold signL
  rw [ht]
  show (if 0 ≤ Lib.indexByte ones.data.toList c then 1 else 0) = 0
  rcases hs with rfl | rfl | rfl | rfl | rfl <;> decide

/-- What begins a token is no blank. -/
theorem nextP_head {c : UInt8} {r : List UInt8} {k : Int} {t : ByteArray} {len : Nat} (h : nextP (c :: r) = .tok k t len) (r' : List UInt8) : skipF false (c :: r') = 0 := by
  by_cases hc : c = 35 ∨ sepC c
  · obtain ⟨h1, h2, h3, h4⟩ := signL_not c r hc
    simp only [nextP] at h
    rw [if_neg (by rw [h1]; simp), if_neg (by rw [h2]; simp), if_neg h3, if_neg (by omega)] at h
    cases h
  · simp only [skipF]
    rw [if_neg (fun e => hc (.inl e))]
    exact if_neg (fun e => hc (.inr e))

theorem nextP_app {x : List UInt8} (hx : sepH x) {c : UInt8} {r : List UInt8} {k : Int} {t : ByteArray} {len : Nat} (h : nextP (c :: r) = .tok k t len) : nextP (c :: r ++ x) = .tok k t len := by
  obtain ⟨_, hlen⟩ := nextP_len c r h
  have hta : ∀ m, m ≤ (c :: r).length → (c :: r ++ x).take m = (c :: r).take m := fun m hm => List.take_append_of_le_length hm
  simp only [List.cons_append] at hta ⊢
  simp only [nextP] at h ⊢
  split at h
  · rename_i k1; rw [if_pos k1]
    cases h
    have hw : whileL nam (c :: (r ++ x)) = whileL nam (c :: r) := whileL_app (p := nam) (x := x) (fun g y e => (sep_nam (hx g y e)).2.2.1) (c :: r)
    rw [hw, hta _ (whileL_le nam (c :: r))]
  rename_i k1; rw [if_neg k1]
  split at h
  · rename_i k2; rw [if_pos k2]
    cases h
    have hw : numL (c :: (r ++ x)) = numL (c :: r) := numL_app hx (c :: r)
    obtain ⟨n1, n2, n3⟩ := numL_len c r k2
    rw [hw, hta _ (by omega)]
  rename_i k2; rw [if_neg k2]
  split at h
  · rename_i k3; rw [if_pos k3]
    have h2 : strP ((r ++ x).length + 1) r 1 [] = .tok k t len := by
      rw [← h]; exact strP_fuel _ _ _ _ _ (by rw [List.length_append]; omega) (by omega)
    exact strP_app _ _ _ _ _ _ _ h2
  rename_i k3; rw [if_neg k3]
  split at h
  · rename_i k4
    cases h
    have hw : signL (c :: (r ++ x)) = signL (c :: r) := signL_app hx c r
    rw [hw, if_pos k4, hta _ (signL_le c r)]
  · cases h

theorem nextP_take {c : UInt8} {r : List UInt8} {k : Int} {t : ByteArray} {len : Nat} (h : nextP (c :: r) = .tok k t len) : nextP ((c :: r).take len) = .tok k t len := by
  obtain ⟨h1, hlen⟩ := nextP_len c r h
  have htt : ∀ m, m ≤ len → ((c :: r).take len).take m = (c :: r).take m := fun m hm => by rw [List.take_take, Nat.min_eq_left hm]
  obtain ⟨M, rfl⟩ : ∃ m, len = m + 1 := ⟨len - 1, by omega⟩
  simp only [List.take_succ_cons] at htt ⊢
  simp only [nextP] at h ⊢
  split at h
  · rename_i k1; rw [if_pos k1]
    have hlen2 : whileL nam (c :: r) = M + 1 := by simp only [NR.tok.injEq] at h; exact h.2.2
    have hw : whileL nam (c :: r.take M) = whileL nam (c :: r) := by
      have := whileL_take (p := nam) (c :: r) (M + 1) (by omega)
      rwa [List.take_succ_cons] at this
    rw [hw]
    rw [← h, htt _ (by omega)]
  rename_i k1; rw [if_neg k1]
  split at h
  · rename_i k2; rw [if_pos k2]
    have hlen2 : (numL (c :: r)).2.2 = M + 1 := by simp only [NR.tok.injEq] at h; exact h.2.2
    have hw : numL (c :: r.take M) = numL (c :: r) := by
      have := numL_take (c :: r)
      rw [hlen2, List.take_succ_cons] at this
      exact this
    obtain ⟨n1, n2, n3⟩ := numL_len c r k2
    rw [hw, ← h, htt _ (by omega)]
  rename_i k2; rw [if_neg k2]
  split at h
  · rename_i k3; rw [if_pos k3]
    have q := strP_take _ _ _ _ _ _ _ h
    rw [Nat.add_sub_cancel] at q
    rw [← q]
    exact strP_fuel _ _ _ _ _ (by omega) (by rw [List.length_take]; omega)
  rename_i k3; rw [if_neg k3]
  split at h
  · rename_i k4
    have hlen2 : signL (c :: r) = M + 1 := by simp only [NR.tok.injEq] at h; exact h.2.2
    have hw : signL (c :: r.take M) = signL (c :: r) := by
      have := signL_take c r k4
      rw [hlen2, List.take_succ_cons] at this
      rw [this, hlen2]
    rw [hw, if_pos k4, ← h, htt _ (by omega)]
  · cases h

end Go.Proofs.Ytaanmljlbhkonaa.AD

namespace Go.Proofs.Ytaanmljlbhkonaa.AD
open Go.Proofs
set_option linter.unusedVariables false
set_option linter.unusedSimpArgs false
set_option maxRecDepth 100000

def blkP : Bool → List UInt8 → Bool
  | _, [] => true
  | b, c :: r => if c = 10 then blkP false r else if b = true ∨ c = 35 then blkP true r else if c = 9 ∨ c = 13 ∨ c = 32 then blkP false r else false

theorem blk_skip : ∀ (l : List UInt8) (b : Bool), blkP b (l.take (skipF b l)) = true
  | [], b => by simp [blkP]
  | c :: r, true => by
    have h1 := blk_skip r true
    have h2 := blk_skip r false
    simp only [skipF]
    split
    · rename_i h; simp only [List.take_succ_cons, blkP, if_pos h]; exact h2
    · rename_i h; simp only [List.take_succ_cons, blkP, if_neg h, true_or, if_true]; exact h1
  | c :: r, false => by
    have h1 := blk_skip r true
    have h2 := blk_skip r false
    simp only [skipF]
    split
    · rename_i h
      simp only [List.take_succ_cons, blkP]
      rw [if_neg (by rw [h]; decide), if_pos (.inr h)]
      exact h1
    · rename_i h
      split
      · rename_i h3
        simp only [List.take_succ_cons, blkP]
        split
        · exact h2
        · rename_i h4
          rw [if_neg (by rintro (e | e); cases e; exact h e), if_pos (by rcases h3 with h3 | h3 | h3 | h3 <;> first | exact .inr (.inr h3) | exact .inl h3 | exact .inr (.inl h3) | exact absurd h3 h4)]
          exact h2
      · simp [blkP]

theorem eqCells_tok (k : Int) (t : ByteArray) (a e : Int) : eqCells [.int .u8, .str, .int .i64, .int .i64] [.int .u8 k, .str t, .int .i64 a, .int .i64 e] [.int .u8 k, .str t, .int .i64 a, .int .i64 e] = some true := by
  simp [eqCells]

def wTok : List Tok := [⟨1, ⟨#[97, 49]⟩, 0, 2⟩, ⟨6, ⟨#[45, 62]⟩, 3, 5⟩, ⟨4, ⟨#[98]⟩, 6, 9⟩, ⟨6, ⟨#[59]⟩, 9, 10⟩]
theorem works_tok : tokensR ⟨#[97, 49, 32, 45, 62, 32, 34, 98, 34, 59, 32, 35, 32, 99]⟩ = .ok wTok := by kernel_rfl
end Go.Proofs.Ytaanmljlbhkonaa.AD

namespace Go.Proofs.Ytaanmljlbhkonaa.AD
open Go.Proofs
set_option linter.unusedVariables false
set_option linter.unusedSimpArgs false
set_option maxRecDepth 100000

theorem tokG_err : ∀ (f : Nat) (l : List UInt8) (q : Nat) (acc : List Tok) (p : Nat) (e : Int), l.length < f → tokG f l q acc = .err p e → (e = 3 ∨ e = 140 ∨ e = 141 ∨ e = 142) ∧ p ≤ q + l.length
  | 0, l, q, acc, p, e, h, _ => by omega
  | f + 1, [], q, acc, p, e, _, h => by cases h
  | f + 1, c :: r, q, acc, p, e, hf, h => by
    simp only [tokG] at h
    split at h
    · cases h; exact ⟨.inl rfl, by omega⟩
    split at h
    · rename_i o e' hN
      obtain ⟨h1, h2⟩ := nextP_err c r hN
      cases h
      simp only [List.length_cons]
      exact ⟨.inr h1, by omega⟩
    · rename_i k t len hN
      obtain ⟨h1, h2⟩ := nextP_len c r hN
      have hs := skipF_le ((c :: r).drop len) false
      have hl : (((c :: r).drop len).drop (skipF false ((c :: r).drop len))).length = (c :: r).length - len - skipF false ((c :: r).drop len) := by rw [List.length_drop, List.length_drop]
      rw [List.length_drop] at hs
      simp only [List.length_cons] at hf h2 hs hl ⊢
      obtain ⟨h3, h4⟩ := tokG_err f _ _ _ p e (by omega) h
      exact ⟨h3, by omega⟩

theorem tokensR_err {s : ByteArray} {p : Nat} {e : Int} (h : tokensR s = .err p e) : (e = 3 ∨ e = 140 ∨ e = 141 ∨ e = 142) ∧ p ≤ s.size := by
  unfold tokensR at h
  split at h
  · cases h; exact ⟨.inl rfl, by omega⟩
  · have hs := skipF_le s.data.toList false
    have := tokG_err _ _ _ _ p e (by rw [List.length_drop, ← ba_size]; omega) h
    rw [List.length_drop, ← ba_size] at this
    rw [← ba_size] at hs
    exact ⟨this.1, by omega⟩

/-- A token alone. -/
theorem tok_alone {c : UInt8} {r : List UInt8} {k : Int} {t : ByteArray} {len : Nat} (h : nextP (c :: r) = .tok k t len) (hb : len ≤ 65536) : tokensR (ofL ((c :: r).take len)) = .ok [⟨k, t, 0, len⟩] := by
  obtain ⟨h1, h2⟩ := nextP_len c r h
  have hsz : (ofL ((c :: r).take len)).size = len := by rw [ba_size, ofL_data, List.length_take]; omega
  unfold tokensR
  rw [hsz, if_neg (by omega), ofL_data]
  have ht := nextP_take h
  obtain ⟨M, rfl⟩ : ∃ m, len = m + 1 := ⟨len - 1, by omega⟩
  rw [List.take_succ_cons] at ht ⊢
  rw [nextP_head h, List.drop_zero]
  simp only [tokG, List.length_nil]
  rw [if_neg (by omega), ht]
  simp only
  have hd : (c :: r.take M).drop (M + 1) = [] := List.drop_eq_nil_iff.2 (by simp only [List.length_cons, List.length_take]; omega)
  rw [hd, List.drop_nil]
  simp [tokG]

/-- Tokens one behind the other, from a place on. -/
def Tile (L : List UInt8) : Nat → List Tok → Prop
  | e, [] => blkP false (L.drop e) = true
  | e, x :: r => (e ≤ x.a ∧ x.a < x.e ∧ x.e ≤ L.length) ∧ blkP false ((L.take x.a).drop e) = true ∧ tokensR (ofL ((L.take x.e).drop x.a)) = .ok [⟨x.k, x.t, 0, x.e - x.a⟩] ∧ Tile L x.e r

theorem blk_to (L : List UInt8) (e : Nat) : blkP false ((L.take (e + skipF false (L.drop e))).drop e) = true := by
  rw [List.drop_take, Nat.add_sub_cancel_left]
  exact blk_skip _ _

theorem tile_of (L : List UInt8) (hL : L.length ≤ 65536) : ∀ (f : Nat) (l : List UInt8) (q : Nat) (acc : List Tok) (e : Nat) (ts : List Tok), tokG f l q acc = .ok ts → L.drop q = l → q = e + skipF false (L.drop e) → e ≤ L.length → ∃ us, ts = acc ++ us ∧ Tile L e us
  | 0, l, q, acc, e, ts, h, _, _, _ => by cases h
  | f + 1, [], q, acc, e, ts, h, hd, hq, he => by
    cases h
    refine ⟨[], by simp, ?_⟩
    show blkP false (L.drop e) = true
    have h1 := blk_to L e
    rw [← hq] at h1
    have := List.drop_eq_nil_iff.1 hd
    rwa [List.take_of_length_le this] at h1
  | f + 1, c :: r, q, acc, e, ts, h, hd, hq, he => by
    simp only [tokG] at h
    split at h
    · cases h
    split at h
    · cases h
    · rename_i k t len hN
      obtain ⟨h1, h2⟩ := nextP_len c r hN
      have hlen : q + (c :: r).length = L.length := by
        have := congrArg List.length hd
        rw [List.length_drop] at this
        have h3 : 0 < (c :: r).length := by simp
        omega
      have hd2 : L.drop (q + len) = (c :: r).drop len := by rw [← List.drop_drop, hd]
      obtain ⟨us, rfl, hus⟩ := tile_of L hL f _ _ _ (q + len) ts h (by rw [← List.drop_drop, hd2]) (by rw [hd2]) (by omega)
      refine ⟨⟨k, t, q, q + len⟩ :: us, by simp, ⟨by show e ≤ q; omega, by show q < q + len; omega, by show q + len ≤ L.length; omega⟩, ?_, ?_, hus⟩
      · show blkP false ((L.take q).drop e) = true
        have h3 := blk_to L e
        rwa [← hq] at h3
      · show tokensR (ofL ((L.take (q + len)).drop q)) = .ok [⟨k, t, 0, q + len - q⟩]
        rw [List.drop_take, hd, Nat.add_sub_cancel_left]
        exact tok_alone hN (by omega)

theorem tokG_len : ∀ (f : Nat) (l : List UInt8) (q : Nat) (acc ts : List Tok), acc.length ≤ 8192 → tokG f l q acc = .ok ts → ts.length ≤ 8192
  | 0, l, q, acc, ts, _, h => by cases h
  | f + 1, [], q, acc, ts, ha, h => by cases h; exact ha
  | f + 1, c :: r, q, acc, ts, ha, h => by
    simp only [tokG] at h
    split at h
    · cases h
    split at h
    · cases h
    · exact tokG_len f _ _ _ ts (by simp; omega) h
theorem tokensR_len {s : ByteArray} {ts : List Tok} (h : tokensR s = .ok ts) : ts.length ≤ 8192 := by
  unfold tokensR at h
  split at h
  · cases h
  · exact tokG_len _ _ _ [] ts (by simp) h

theorem tokensR_tile {s : ByteArray} {ts : List Tok} (h : tokensR s = .ok ts) : s.size ≤ 65536 ∧ Tile s.data.toList 0 ts := by
  unfold tokensR at h
  split at h
  · cases h
  · obtain ⟨us, e, hus⟩ := tile_of s.data.toList (by rw [← ba_size]; omega) _ _ _ _ 0 ts h rfl (by simp) (Nat.zero_le _)
    rw [List.nil_append] at e
    subst e
    exact ⟨by omega, hus⟩

end Go.Proofs.Ytaanmljlbhkonaa.AD

namespace Go.Proofs.Ytaanmljlbhkonaa.AD
open Go.Proofs
set_option linter.unusedVariables false
set_option linter.unusedSimpArgs false
set_option maxRecDepth 100000

/-- The tokens of a text that begins with one. -/
inductive Toks : List UInt8 → Nat → List Tok → Prop
  | nil (q : Nat) : Toks [] q []
  | cons (c : UInt8) (r : List UInt8) (q : Nat) (k : Int) (t : ByteArray) (len : Nat) (us : List Tok) : nextP (c :: r) = .tok k t len →
      Toks (((c :: r).drop len).drop (skipF false ((c :: r).drop len))) (q + len + skipF false ((c :: r).drop len)) us → Toks (c :: r) q (⟨k, t, q, q + len⟩ :: us)
def TokS (l : List UInt8) (q : Nat) (us : List Tok) : Prop := Toks (l.drop (skipF false l)) (q + skipF false l) us

theorem toks_of : ∀ (f : Nat) (l : List UInt8) (q : Nat) (acc ts : List Tok), tokG f l q acc = .ok ts → ∃ us, ts = acc ++ us ∧ Toks l q us
  | 0, l, q, acc, ts, h => by cases h
  | f + 1, [], q, acc, ts, h => by cases h; exact ⟨[], by simp, .nil q⟩
  | f + 1, c :: r, q, acc, ts, h => by
    simp only [tokG] at h
    split at h
    · cases h
    split at h
    · cases h
    · rename_i k t len hN
      obtain ⟨us, rfl, h2⟩ := toks_of f _ _ _ ts h
      exact ⟨⟨k, t, q, q + len⟩ :: us, by simp, .cons c r q k t len us hN h2⟩
theorem tokG_of {l : List UInt8} {q : Nat} {us : List Tok} (h : Toks l q us) : ∀ (f : Nat) (acc : List Tok), acc.length + us.length ≤ 8192 → l.length < f → tokG f l q acc = .ok (acc ++ us) := by
  induction h with
  | nil q =>
    intro f acc hl hf
    obtain ⟨f, rfl⟩ : ∃ g, f = g + 1 := ⟨f - 1, by omega⟩
    simp [tokG]
  | cons c r q k t len us hN h2 ih =>
    intro f acc hl hf
    obtain ⟨f, rfl⟩ : ∃ g, f = g + 1 := ⟨f - 1, by omega⟩
    simp only [List.length_cons] at hl
    obtain ⟨h1, h3⟩ := nextP_len c r hN
    simp only [tokG]
    rw [if_neg (by omega), hN]
    simp only
    rw [ih f (acc ++ [(⟨k, t, q, q + len⟩ : Tok)]) (by rw [List.length_append]; simp only [List.length_cons, List.length_nil]; omega) (by rw [List.length_drop, List.length_drop]; simp only [List.length_cons] at hf h3 ⊢; omega)]
    simp
theorem tokS_of {s : ByteArray} {ts : List Tok} (h : tokensR s = .ok ts) : TokS s.data.toList 0 ts := by
  unfold tokensR at h
  split at h
  · cases h
  · obtain ⟨us, e, h2⟩ := toks_of _ _ _ _ _ h
    rw [List.nil_append] at e
    subst e
    rw [TokS, Nat.zero_add]
    exact h2
theorem tokensR_of {s : ByteArray} {ts : List Tok} (hs : s.size ≤ 65536) (ht : ts.length ≤ 8192) (h : TokS s.data.toList 0 ts) : tokensR s = .ok ts := by
  unfold tokensR
  rw [if_neg (by omega)]
  rw [TokS, Nat.zero_add] at h
  rw [tokG_of h (s.size + 1) [] (by simpa using ht) (by rw [List.length_drop, ← ba_size]; omega)]
  rfl

def shT (d : Nat) (x : Tok) : Tok := ⟨x.k, x.t, x.a + d, x.e + d⟩
theorem toks_shift (d : Nat) {l : List UInt8} {q : Nat} {us : List Tok} (h : Toks l q us) : Toks l (q + d) (us.map (shT d)) := by
  induction h with
  | nil q => exact .nil _
  | cons c r q k t len us hN h2 ih =>
    have := Toks.cons c r (q + d) k t len (us.map (shT d)) hN (by rw [show q + d + len + skipF false ((c :: r).drop len) = q + len + skipF false ((c :: r).drop len) + d by omega]; exact ih)
    rw [List.map_cons, shT]
    simp only
    rw [show q + len + d = q + d + len by omega]
    exact this

theorem skip_app (y : List UInt8) : ∀ (l : List UInt8) (b : Bool), (skipF b l < l.length → skipF b (l ++ 10 :: y) = skipF b l) ∧ (skipF b l = l.length → skipF b (l ++ 10 :: y) = l.length + 1 + skipF false y)
  | [], b => by
    refine ⟨fun h => by simp at h, fun _ => ?_⟩
    cases b
    · simp [skipF]; omega
    · simp [skipF]; omega
  | c :: r, true => by
    obtain ⟨h1, h2⟩ := skip_app y r false
    obtain ⟨h3, h4⟩ := skip_app y r true
    simp only [List.cons_append, skipF, List.length_cons]
    split
    · exact ⟨fun h => by rw [h1 (by omega)], fun h => by rw [h2 (by omega)]; omega⟩
    · exact ⟨fun h => by rw [h3 (by omega)], fun h => by rw [h4 (by omega)]; omega⟩
  | c :: r, false => by
    obtain ⟨h1, h2⟩ := skip_app y r false
    obtain ⟨h3, h4⟩ := skip_app y r true
    simp only [List.cons_append, skipF, List.length_cons]
    split
    · exact ⟨fun h => by rw [h3 (by omega)], fun h => by rw [h4 (by omega)]; omega⟩
    split
    · exact ⟨fun h => by rw [h1 (by omega)], fun h => by rw [h2 (by omega)]; omega⟩
    · exact ⟨fun h => rfl, fun h => by omega⟩

theorem sep10 (y : List UInt8) : sepH (10 :: y) := fun h z e => by cases e; exact .inr (.inr (.inr rfl))

theorem tokS_join (y : List UInt8) (vs : List Tok) : ∀ (us : List Tok) (l : List UInt8) (q : Nat), TokS l q us → TokS y (q + l.length + 1) vs → TokS (l ++ 10 :: y) q (us ++ vs) := by
  intro us
  induction us with
  | nil =>
    intro l q h hy
    have hle := skipF_le l false
    have he : l.drop (skipF false l) = [] := by
      unfold TokS at h
      generalize hd : l.drop (skipF false l) = d at h
      cases h; rfl
    have hl := List.drop_eq_nil_iff.1 he
    have hs := (skip_app y l false).2 (by omega)
    unfold TokS at hy ⊢
    rw [hs, List.nil_append, show l.length + 1 + skipF false y = l.length + (1 + skipF false y) by omega, ← List.drop_drop, List.drop_left, ← List.drop_drop]
    rw [show q + (l.length + (1 + skipF false y)) = q + l.length + 1 + skipF false y by omega]
    exact hy
  | cons x us ih =>
    intro l q h hy
    have hle := skipF_le l false
    unfold TokS at h
    generalize hd : l.drop (skipF false l) = d at h
    cases h with
    | cons c r q' k t len _ hN h2 =>
      have hlen : skipF false l + (c :: r).length = l.length := by
        have := congrArg List.length hd
        rw [List.length_drop] at this
        omega
      have hs := (skip_app y l false).1 (by simp only [List.length_cons] at hlen; omega)
      have hN2 := nextP_app (sep10 y) hN
      obtain ⟨n1, n2⟩ := nextP_len c r hN
      have q2 := ih ((c :: r).drop len) (q + skipF false l + len) h2 (by rw [List.length_drop, show q + skipF false l + len + ((c :: r).length - len) + 1 = q + l.length + 1 by omega]; exact hy)
      unfold TokS at q2 ⊢
      rw [hs, List.drop_append_of_le_length hle, hd]
      refine .cons c (r ++ 10 :: y) (q + skipF false l) k t len (us ++ vs) hN2 ?_
      have he : (c :: (r ++ 10 :: y)).drop len = (c :: r).drop len ++ 10 :: y := by rw [← List.cons_append]; exact List.drop_append_of_le_length n2
      rw [he]
      exact q2

theorem tokens_join {a b : ByteArray} {l m : List Tok} (ha : tokensR a = .ok l) (hb : tokensR b = .ok m) (sa : a.size ≤ 32767) (sb : b.size ≤ 32767) (hl : l.length ≤ 4096) (hm : m.length ≤ 4096) (s : ByteArray)
    (hs : s.data.toList = a.data.toList ++ 10 :: b.data.toList) : tokensR s = .ok (l ++ m.map (shT (a.size + 1))) := by
  have h1 := tokS_of ha
  have h2 := toks_shift (a.size + 1) (tokS_of hb)
  refine tokensR_of (by rw [ba_size, hs, List.length_append, List.length_cons, ← ba_size, ← ba_size]; omega) (by rw [List.length_append, List.length_map]; omega) ?_
  rw [hs]
  refine tokS_join _ _ _ _ _ h1 ?_
  unfold TokS
  rw [← ba_size, show 0 + a.size + 1 + skipF false b.data.toList = 0 + skipF false b.data.toList + (a.size + 1) by omega]
  exact h2

/-- A token's bytes, alone. -/
def Alone (L : List UInt8) (x : Tok) : Prop := ∃ c w, (L.take x.e).drop x.a = c :: w ∧ nextP (c :: w) = .tok x.k x.t (x.e - x.a) ∧ x.e = x.a + (c :: w).length ∧ x.e ≤ L.length
theorem toks_alone (L : List UInt8) : ∀ (us : List Tok) (l : List UInt8) (q : Nat), Toks l q us → L.drop q = l → ∀ x, x ∈ us → Alone L x ∧ q ≤ x.a := by
  intro us
  induction us with
  | nil => intro l q h hd x hx; cases hx
  | cons u us ih =>
    intro l q h hd x hx
    cases h with
    | cons c r _ k t len _ hN h2 =>
      obtain ⟨n1, n2⟩ := nextP_len c r hN
      have hlen : q + (c :: r).length = L.length := by
        have := congrArg List.length hd
        rw [List.length_drop] at this
        have h3 : 0 < (c :: r).length := by simp
        omega
      rcases List.mem_cons.1 hx with rfl | hx
      · refine ⟨⟨c, r.take (len - 1), ?_, ?_, ?_, ?_⟩, Nat.le_refl _⟩
        · show (L.take (q + len)).drop q = _
          rw [List.drop_take, hd, Nat.add_sub_cancel_left]
          obtain ⟨M, rfl⟩ : ∃ m, len = m + 1 := ⟨len - 1, by omega⟩
          rfl
        · show nextP _ = .tok k t (q + len - q)
          rw [Nat.add_sub_cancel_left]
          have := nextP_take hN
          obtain ⟨M, rfl⟩ : ∃ m, len = m + 1 := ⟨len - 1, by omega⟩
          exact this
        · show q + len = q + _
          simp only [List.length_cons, List.length_take] at n2 ⊢
          omega
        · show q + len ≤ _
          omega
      · obtain ⟨a1, a2⟩ := ih _ _ h2 (by rw [show q + len + skipF false ((c :: r).drop len) = q + (len + skipF false ((c :: r).drop len)) by omega, ← List.drop_drop, hd, ← List.drop_drop]) x hx
        exact ⟨a1, by omega⟩

def bodyOf (L : List UInt8) (x : Tok) : List UInt8 := (L.take x.e).drop x.a
/-- A text spread. -/
def sprL (L more : List UInt8) : List Tok → List UInt8
  | [] => more
  | x :: us => more ++ (bodyOf L x ++ sprL L more us)
def reT (ml : Nat) : Nat → List Tok → List Tok
  | _, [] => []
  | p, x :: us => ⟨x.k, x.t, p + ml, p + ml + (x.e - x.a)⟩ :: reT ml (p + ml + (x.e - x.a)) us
theorem reT_len (ml : Nat) : ∀ (us : List Tok) (p : Nat), (reT ml p us).length = us.length
  | [], p => rfl
  | x :: us, p => by simp [reT, reT_len ml us]

theorem tokS_spread (L more : List UInt8) (hm : ∀ y, skipF false (more ++ y) = more.length + skipF false y) (hh : ∀ y, sepH (more ++ y)) : ∀ (us : List Tok) (q : Nat), (∀ x, x ∈ us → Alone L x) → TokS (sprL L more us) q (reT more.length q us)
  | [], q, _ => by
    have := hm []
    rw [List.append_nil] at this
    unfold TokS sprL reT
    rw [this]
    simp only [skipF, Nat.add_zero, List.drop_length]
    exact .nil _
  | x :: us, q, h => by
    obtain ⟨c, w, h1, h2, h3, h4⟩ := h x (List.mem_cons_self ..)
    have ih := tokS_spread L more hm hh us (q + more.length + (x.e - x.a)) fun z hz => h z (List.mem_cons_of_mem _ hz)
    have hN : nextP (c :: w ++ sprL L more us) = .tok x.k x.t (x.e - x.a) := nextP_app (by
      cases us with
      | nil => have := hh []; rwa [List.append_nil] at this
      | cons => exact hh _) h2
    unfold TokS at ih ⊢
    unfold sprL reT
    rw [hm, bodyOf, h1, List.cons_append, nextP_head hN, Nat.add_zero, List.drop_left]
    refine .cons c (w ++ sprL L more us) (q + more.length) x.k x.t (x.e - x.a) _ hN ?_
    have hd : (c :: (w ++ sprL L more us)).drop (x.e - x.a) = sprL L more us := by
      rw [← List.cons_append, show x.e - x.a = (c :: w).length by omega, List.drop_left]
    rw [hd]
    exact ih

/-- How long the tokens' bytes are together. -/
def sumT : List Tok → Nat
  | [] => 0
  | x :: us => (x.e - x.a) + sumT us
theorem sprL_len (L more : List UInt8) : ∀ us : List Tok, (∀ x, x ∈ us → Alone L x) → (sprL L more us).length = (us.length + 1) * more.length + sumT us
  | [], _ => by simp [sprL, sumT]
  | x :: us, h => by
    obtain ⟨c, w, h1, h2, h3, h4⟩ := h x (List.mem_cons_self ..)
    have := sprL_len L more us fun z hz => h z (List.mem_cons_of_mem _ hz)
    rw [sprL, List.length_append, List.length_append, this, bodyOf, h1, sumT, List.length_cons (a := x), Nat.succ_mul, Nat.succ_mul, Nat.succ_mul]
    omega
theorem sumT_le : ∀ (us : List Tok) (L : List UInt8) (e : Nat), Tile L e us → e ≤ L.length → e + sumT us ≤ L.length
  | [], L, e, _, h => h
  | x :: us, L, e, h, he => by
    obtain ⟨⟨h1, h2, h3⟩, _, _, h4⟩ := h
    have := sumT_le us L x.e h4 h3
    simp only [sumT]; omega

theorem tokens_spread {s : ByteArray} {l : List Tok} (h : tokensR s = .ok l) (hl : l.length ≤ 4000) (hs : s.size ≤ 30000) (more : List UInt8) (hml : more.length ≤ 5) (hm : ∀ y, skipF false (more ++ y) = more.length + skipF false y) (hh : ∀ y, sepH (more ++ y))
    (z : ByteArray) (hz : z.data.toList = sprL s.data.toList more l) : tokensR z = .ok (reT more.length 0 l) := by
  have hT := tokS_of h
  have hA : ∀ x, x ∈ l → Alone s.data.toList x := fun x hx => (toks_alone _ _ _ _ hT (by rw [Nat.zero_add]) x hx).1
  have hsum := sumT_le _ _ _ (tokensR_tile h).2 (Nat.zero_le _)
  rw [← ba_size] at hsum
  refine tokensR_of ?_ (by rw [reT_len]; omega) ?_
  · rw [ba_size, hz, sprL_len _ _ _ hA]
    have : (l.length + 1) * more.length ≤ 4001 * 5 := Nat.mul_le_mul (by omega) hml
    omega
  · rw [hz]
    exact tokS_spread _ _ hm hh _ _ hA

end Go.Proofs.Ytaanmljlbhkonaa.AD

namespace Go.Proofs.Ytaanmljlbhkonaa.AD
open Go.Proofs
set_option linter.unusedVariables false
set_option linter.unusedSimpArgs false
set_option maxRecDepth 100000

theorem rDigits_spec (s : ByteArray) (hs : s.size ≤ 65536) (p : Nat) (hp : p ≤ s.size) : pureF Try.prog 80 [.p (.str s), .p (.int .i64 p)] (.p (.int .i64 (p + whileL dig (s.data.toList.drop p) : Nat))) := by
  refine pureF_of f80_ok fun H => ?_
  (conv => whnf)
  intro R hR
  have key : ∀ (rest : List UInt8) (i : Nat), s.data.toList.drop i = rest → i + whileL dig rest = p + whileL dig (s.data.toList.drop p) → R [(0, .p (.str s)), (1, .p (.int .i64 i))] H [] := by
    intro rest
    induction rest with
    | nil =>
      intro i hd hq
      have hl := sz_le hd
      refine hR _ _ _ ?_
      (conv => whnf)
      refine splitB_f (decide_eq_false (by omega)) ?_
      repeat' ((conv => whnf); first | refine splitB_t rfl ?_ | refine splitB_f rfl ?_ | done)
      (conv => whnf)
      simp only [whileL] at hq
      rw [← hq]
      exact ⟨rfl, rfl⟩
    | cons c r ih =>
      intro i hd hq
      obtain ⟨hg, hd', _⟩ := drop_cons hd
      have hl := sz_lt hd
      refine hR _ _ _ ?_
      (conv => whnf)
      refine splitB_t (decide_eq_true (by omega)) ?_
      (conv => whnf)
      refine ⟨c, ⟨by omega, by rw [Int.toNat_natCast]; exact hg⟩, ?_⟩
      (conv => whnf)
      refine CallVC.pureF (refDigit_spec _) rfl ?_
      (conv => whnf)
      simp only [whileL] at hq
      cases hc : digitB c.toNat with
      | true =>
        refine splitB_t rfl ?_
        (conv => whnf)
        rw [IntWalk.i64_in _ (by omega)]
        rw [if_pos (show dig c = true from hc)] at hq
        exact ih (i + 1) hd' (by omega)
      | false =>
        refine splitB_f rfl ?_
        (conv => whnf)
        rw [if_neg (by rw [show dig c = digitB c.toNat from rfl, hc]; simp)] at hq
        rw [← hq]
        exact ⟨rfl, rfl⟩
  exact key _ p rfl rfl

theorem rBlanks_spec (s : ByteArray) (hs : s.size ≤ 65536) (p : Nat) (hp : p ≤ s.size) : pureF Try.prog 53 [.p (.str s), .p (.int .i64 p)] (.p (.int .i64 (p + skipF false (s.data.toList.drop p) : Nat))) := by
  refine pureF_of f53_ok fun H => ?_
  (conv => whnf)
  intro R hR
  have key : ∀ (n i : Nat), s.size - i ≤ n → i ≤ s.size → i + skipF false (s.data.toList.drop i) = p + skipF false (s.data.toList.drop p) → R [(0, .p (.str s)), (1, .p (.int .i64 i))] H [] := by
    intro n
    induction n with
    | zero =>
      intro i hn hi hq
      have hd : s.data.toList.drop i = [] := List.drop_eq_nil_iff.2 (by rw [← ba_size]; omega)
      refine hR _ _ _ ?_
      (conv => whnf)
      refine splitB_f (decide_eq_false (by omega)) ?_
      (conv => whnf)
      rw [hd] at hq
      simp only [skipF] at hq
      rw [← hq]
      exact ⟨rfl, rfl⟩
    | succ n ih =>
      intro i hn hi hq
      refine hR _ _ _ ?_
      (conv => whnf)
      refine splitB_dec (fun h => ?_) (fun h => ?_)
      rotate_left
      · have hd : s.data.toList.drop i = [] := List.drop_eq_nil_iff.2 (by rw [← ba_size]; omega)
        (conv => whnf)
        rw [hd] at hq
        simp only [skipF] at hq
        rw [← hq]
        exact ⟨rfl, rfl⟩
      cases hd : s.data.toList.drop i with
      | nil => have := sz_le hd; omega
      | cons c r =>
        obtain ⟨hg, hd', _⟩ := drop_cons hd
        rw [hd] at hq
        (conv => whnf)
        refine ⟨c, ⟨by omega, by rw [Int.toNat_natCast]; exact hg⟩, ?_⟩
        (conv => whnf)
        refine splitB_eq (fun h35 => ?_) (fun h35 => ?_)
        · have hc : c = 35 := u8_of 35 h35 rfl
          subst hc
          simp only [skipF, if_true] at hq
          (conv => whnf)
          intro R2 hR3
          have key2 : ∀ (rest : List UInt8) (k : Nat), s.data.toList.drop k = rest → i < k → k ≤ s.size → k + skipF true rest = p + skipF false (s.data.toList.drop p) → R2 [(0, .p (.str s)), (1, .p (.int .i64 k))] H [] := by
            intro rest
            induction rest with
            | nil =>
              intro k hd2 hik hks hq2
              have hl := sz_le hd2
              refine hR3 _ _ _ ?_
              (conv => whnf)
              refine splitB_f (decide_eq_false (by omega)) ?_
              repeat' ((conv => whnf); first | refine splitB_t rfl ?_ | refine splitB_f rfl ?_ | done)
              (conv => whnf)
              simp only [skipF] at hq2
              exact ih k (by omega) hks (by rw [hd2]; simp only [skipF]; exact hq2)
            | cons d r2 ih2 =>
              intro k hd2 hik hks hq2
              obtain ⟨hg2, hd2', _⟩ := drop_cons hd2
              have hl := sz_lt hd2
              refine hR3 _ _ _ ?_
              (conv => whnf)
              refine splitB_t (decide_eq_true (by omega)) ?_
              (conv => whnf)
              refine ⟨d, ⟨by omega, by rw [Int.toNat_natCast]; exact hg2⟩, ?_⟩
              (conv => whnf)
              simp only [skipF] at hq2
              refine splitB_ne (fun h10 => ?_) (fun h10 => ?_)
              · rw [if_neg (u8_ne 10 h10 rfl)] at hq2
                (conv => whnf)
                rw [IntWalk.i64_in _ (by omega)]
                exact ih2 (k + 1) hd2' (by omega) (by omega) (by omega)
              · have hc : d = 10 := u8_of 10 h10 rfl
                rw [if_pos hc] at hq2
                (conv => whnf)
                exact ih k (by omega) hks (by rw [hd2, hc]; simp only [skipF]; rw [if_neg (by decide), if_pos (.inr (.inr (.inr trivial)))]; exact hq2)
          refine hR3 _ _ _ ?_
          (conv => whnf)
          refine splitB_t (decide_eq_true (by omega)) ?_
          (conv => whnf)
          refine ⟨35, ⟨by omega, by rw [Int.toNat_natCast]; exact hg⟩, ?_⟩
          (conv => whnf)
          refine splitB_t rfl ?_
          (conv => whnf)
          rw [IntWalk.i64_in _ (by omega)]
          exact key2 r (i + 1) hd' (by omega) (by omega) (by omega)
        · have n35 : c ≠ 35 := u8_ne 35 h35 rfl
          simp only [skipF] at hq
          rw [if_neg n35] at hq
          have goon : (c = 32 ∨ c = 9 ∨ c = 13 ∨ c = 10) → R [(0, .p (.str s)), (1, .p (.int .i64 ((i : Int) + 1)))] H [] := fun hb => by
            rw [if_pos hb] at hq
            exact ih (i + 1) (by omega) (by omega) (by rw [hd']; omega)
          (conv => whnf)
          refine splitB_ne (fun h9 => ?_) (fun h9 => ?_)
          rotate_left
          · repeat' ((conv => whnf); first | refine splitB_t rfl ?_ | refine splitB_f rfl ?_ | done)
            (conv => whnf)
            rw [IntWalk.i64_in _ (by omega)]
            exact goon (.inr (.inl (u8_of 9 h9 rfl)))
          have n9 : c ≠ 9 := u8_ne 9 h9 rfl
          (conv => whnf)
          refine splitB_ne (fun h10 => ?_) (fun h10 => ?_)
          rotate_left
          · repeat' ((conv => whnf); first | refine splitB_t rfl ?_ | refine splitB_f rfl ?_ | done)
            (conv => whnf)
            rw [IntWalk.i64_in _ (by omega)]
            exact goon (.inr (.inr (.inr (u8_of 10 h10 rfl))))
          have n10 : c ≠ 10 := u8_ne 10 h10 rfl
          (conv => whnf)
          refine splitB_ne (fun h13 => ?_) (fun h13 => ?_)
          rotate_left
          · repeat' ((conv => whnf); first | refine splitB_t rfl ?_ | refine splitB_f rfl ?_ | done)
            (conv => whnf)
            rw [IntWalk.i64_in _ (by omega)]
            exact goon (.inr (.inr (.inl (u8_of 13 h13 rfl))))
          have n13 : c ≠ 13 := u8_ne 13 h13 rfl
          (conv => whnf)
          refine splitB_ne (fun h32 => ?_) (fun h32 => ?_)
          rotate_left
          · repeat' ((conv => whnf); first | refine splitB_t rfl ?_ | refine splitB_f rfl ?_ | done)
            (conv => whnf)
            rw [IntWalk.i64_in _ (by omega)]
            exact goon (.inl (u8_of 32 h32 rfl))
          have n32 : c ≠ 32 := u8_ne 32 h32 rfl
          rw [if_neg (by rintro (e | e | e | e); exact n32 e; exact n9 e; exact n13 e; exact n10 e)] at hq
          repeat' ((conv => whnf); first | refine splitB_t rfl ?_ | refine splitB_f rfl ?_ | done)
          (conv => whnf)
          rw [← hq]
          exact ⟨rfl, rfl⟩
  exact key _ p (Nat.le_refl _) hp rfl

theorem indexByte_mem (c : UInt8) : ∀ l : List UInt8, 0 ≤ Lib.indexByte l c ↔ c ∈ l
  | [] => by simp [Lib.indexByte]
  | b :: l => by
    have ih := indexByte_mem c l
    have hr := indexByte_range c l
    simp only [Lib.indexByte, List.mem_cons]
    by_cases h : b = c
    · subst h; simp
    · rw [if_neg (by simpa using h)]
      split
      · rename_i h1
        have h1 : Lib.indexByte l c = -1 := by simpa using h1
        constructor
        · intro h2; omega
        · rintro (e | e)
          · exact absurd e.symm h
          · have := ih.2 e; omega
      · rename_i h1
        have h1 : ¬ Lib.indexByte l c = -1 := by simpa using h1
        constructor
        · intro h2; exact .inr (ih.1 (by omega))
        · rintro (e | e)
          · exact absurd e.symm h
          · have := ih.2 e; omega

theorem toListR_eq {a b : ByteArray} : a.toList = b.toList ↔ a = b := ⟨fun h => ba_eq (by rwa [ba_toList, ba_toList] at h), fun h => by rw [h]⟩
theorem rSign_spec (s : ByteArray) (hs : s.size ≤ 65536) (p : Nat) (c : UInt8) (r : List UInt8) (hd : s.data.toList.drop p = c :: r) : pureF Try.prog 75 [.p (.str s), .p (.int .i64 p)] (.p (.int .i64 (signL (c :: r)))) := by
  refine pureF_of f75_ok fun H => ?_
  have hl := sz_lt hd
  have hg := (drop_cons hd).1
  have h8 : twos.length = 8 := rfl
  (conv => whnf)
  intro R hR
  have key : ∀ (tw : List ByteArray) (i : Nat), twos.drop i = tw → (twos.any fun p => preB p.data.toList (c :: r)) = (tw.any fun p => preB p.data.toList (c :: r)) → R [(0, .p (.str s)), (1, .p (.int .i64 p)), (5, .p (.list 1 (twos.map PV.str))), (6, .p (.int .i64 i))] H [] := by
    intro tw
    induction tw with
    | nil =>
      intro i hi ha
      have hlen := drop_nil hi
      have hm : (twos.map PV.str).length = 8 := rfl
      refine hR _ _ _ ?_
      (conv => whnf)
      refine splitB_f (decide_eq_false (by omega)) ?_
      (conv => whnf)
      intro R2 hR2
      have hdef : signL (c :: r) = if 0 ≤ Lib.indexByte ones.data.toList c then 1 else 0 := by
        rw [signL, ha]; rfl
      have h20 : ones.size = 20 := rfl
      have key2 : ∀ (rest : List UInt8) (k : Nat), ones.data.toList.drop k = rest → (0 ≤ Lib.indexByte ones.data.toList c ↔ c ∈ rest) → R2 [(0, .p (.str s)), (1, .p (.int .i64 p)), (7, .p (.str ones)), (8, .p (.int .i64 k))] H [] := by
        intro rest
        induction rest with
        | nil =>
          intro k hk hm
          have hkl := sz_le hk
          refine hR2 _ _ _ ?_
          (conv => whnf)
          refine splitB_f (decide_eq_false (by omega)) ?_
          (conv => whnf)
          rw [hdef, if_neg (fun e => by cases hm.1 e)]
          exact ⟨rfl, rfl⟩
        | cons d rest ih =>
          intro k hk hm
          obtain ⟨hg2, hk', _⟩ := drop_cons hk
          have hkl := sz_lt hk
          refine hR2 _ _ _ ?_
          (conv => whnf)
          refine splitB_t (decide_eq_true (by omega)) ?_
          (conv => whnf)
          refine ⟨c, ⟨by omega, by rw [Int.toNat_natCast]; exact hg⟩, ?_⟩
          (conv => whnf)
          refine ⟨d, ⟨by omega, by rw [Int.toNat_natCast]; exact hg2⟩, ?_⟩
          (conv => whnf)
          refine splitB_eq (fun he => ?_) (fun he => ?_)
          · have hcd : c = d := UInt8.toNat_inj.1 (by omega)
            (conv => whnf)
            rw [hdef, if_pos (hm.2 (by rw [hcd]; exact List.mem_cons_self ..))]
            exact ⟨rfl, rfl⟩
          · have hcd : ¬ c = d := fun e => he (by rw [e])
            (conv => whnf)
            rw [IntWalk.i64_in _ (by omega)]
            exact ih (k + 1) hk' (hm.trans ⟨fun h => (List.mem_cons.1 h).elim (fun e => absurd e hcd) id, fun h => List.mem_cons_of_mem _ h⟩)
      exact key2 _ 0 rfl (indexByte_mem c _)
    | cons b tw ih =>
      intro i hi ha
      obtain ⟨hg2, hi', hlt⟩ := drop_cons hi
      have hm : (twos.map PV.str).length = 8 := rfl
      have hb2 : b.data.toList.length = 2 := (twos_sep b (List.mem_of_getElem? hg2)).2
      rw [List.any_cons] at ha
      refine hR _ _ _ ?_
      (conv => whnf)
      refine splitB_t (decide_eq_true (by omega)) ?_
      (conv => whnf)
      have hlen : r.length + 1 = s.size - p := by
        have := congrArg List.length hd
        rw [List.length_drop, ← ba_size] at this
        simpa using this.symm
      rw [IntWalk.i64_in _ (by omega)]
      refine splitB_dec (fun h2 => ?_) (fun h2 => ?_)
      rotate_left
      · have hb : preB b.data.toList (c :: r) = false := by
          cases hp : preB b.data.toList (c :: r) with
          | false => rfl
          | true => have := preB_len hp; simp only [List.length_cons] at this; omega
        rw [hb, Bool.false_or] at ha
        repeat' ((conv => whnf); first | refine splitB_t rfl ?_ | refine splitB_f rfl ?_ | done)
        (conv => whnf)
        rw [IntWalk.i64_in _ (by omega)]
        exact ih (i + 1) hi' ha
      (conv => whnf)
      rw [IntWalk.i64_in _ (by omega)]
      refine ⟨⟨by omega, by omega, by omega⟩, ?_⟩
      (conv => whnf)
      refine ⟨rfl, .str b, ⟨by omega, by rw [Int.toNat_natCast, List.getElem?_map, hg2]; rfl⟩, ?_⟩
      (conv => whnf)
      have hex : s.extract (Int.toNat (p : Int)) (Int.toNat ((p : Int) + 2)) = ofL ((c :: r).take 2) := by
        rw [show ((p : Int) + 2).toNat = p + 2 by omega, Int.toNat_natCast]; exact ext_part s p 2 hd
      rw [hex]
      cases hb : preB b.data.toList (c :: r) with
      | true =>
        have hb' := hb
        rw [preB, decide_eq_true_eq, hb2] at hb'
        refine splitB_t (by rw [beq_iff_eq, toListR_eq, hb', ofL_of]) ?_
        rw [hb] at ha
        (conv => whnf)
        rw [signL, ha]
        exact ⟨rfl, rfl⟩
      | false =>
        have hb' := hb
        rw [preB, decide_eq_false_iff_not, hb2] at hb'
        refine splitB_f (by rw [beq_eq_false_iff_ne, Ne, toListR_eq]; intro e; exact hb' (by rw [← e, ofL_data])) ?_
        rw [hb, Bool.false_or] at ha
        (conv => whnf)
        rw [IntWalk.i64_in _ (by omega)]
        exact ih (i + 1) hi' ha
  exact key twos 0 rfl rfl

end Go.Proofs.Ytaanmljlbhkonaa.AD

namespace Go.Proofs.Ytaanmljlbhkonaa.AD
open Go.Proofs
set_option linter.unusedVariables false
set_option linter.unusedSimpArgs false
set_option maxRecDepth 100000

theorem rNumber_spec (s : ByteArray) (hs : s.size ≤ 65536) (p : Nat) (l : List UInt8) (hp : p ≤ s.size) (hd : s.data.toList.drop p = l) :
    pureF Try.prog 73 [.p (.str s), .p (.int .i64 p)] (.p (tokP (numL l).1 (ofL (l.take (numL l).2.1)) p (p + (numL l).2.2 : Nat))) := by
  refine pureF_of f73_ok fun H => ?_
  have hlen : l.length = s.size - p := by rw [← hd, List.length_drop, ba_size]
  have hw := whileL_le dig l
  have hD := rDigits_spec s hs p hp
  rw [hd] at hD
  generalize hn : whileL dig l = n at hw hD
  have hd2 : s.data.toList.drop (p + n) = l.drop n := by rw [← List.drop_drop, hd]
  have cut1 : ∀ e : Nat, p + e ≤ s.size → s.extract (Int.toNat (p : Int)) (Int.toNat ((p + e : Nat) : Int)) = ofL (l.take e) := fun e he => by
    rw [Int.toNat_natCast, Int.toNat_natCast]; exact ext_part s p e hd
  have hdef : numL l = match l.drop n with
      | c :: d :: _ => if c = 46 ∧ dig d = true then (3, n + 1 + whileL dig (l.drop (n + 1)), n + 1 + whileL dig (l.drop (n + 1))) else if ofB (l.drop n) = true then (5, n, n + 3) else (2, n, n)
      | _ => (2, n, n) := by unfold numL; rw [hn] <;> rfl
  -- the plain end
  have plain : numL l = (2, n, n) → W Try.prog f73.c14 [(0, .p (.str s)), (1, .p (.int .i64 p)), (4, .ref (.l 0) 0), (5, .p (.int .i64 (p + n : Nat)))] H [.cells [.p (.int .u8 0), .p (.str ⟨#[]⟩), .p (.int .i64 0), .p (.int .i64 0)]]
      (endQ f73 fun r' H' => r' = .p (tokP (numL l).1 (ofL (l.take (numL l).2.1)) p (p + (numL l).2.2 : Nat)) ∧ H' = H) := by
    intro e
    rw [e]
    (conv => whnf)
    refine ⟨⟨by omega, by omega, by omega⟩, ?_⟩
    (conv => whnf)
    rw [cut1 n (by omega)]
    exact ⟨rfl, rfl⟩
  -- what stands behind the digits: '-of' or not
  have tailW : numL l = (if ofB (l.drop n) = true then (5, n, n + 3) else (2, n, n)) → W Try.prog f73.c15 [(0, .p (.str s)), (1, .p (.int .i64 p)), (4, .ref (.l 0) 0), (5, .p (.int .i64 (p + n : Nat)))] H [.cells [.p (.int .u8 0), .p (.str ⟨#[]⟩), .p (.int .i64 0), .p (.int .i64 0)]]
      (endQ f73 fun r' H' => r' = .p (tokP (numL l).1 (ofL (l.take (numL l).2.1)) p (p + (numL l).2.2 : Nat)) ∧ H' = H) := by
    intro ha
    have isof : ofB (l.drop n) = true → p + n + 3 ≤ s.size → W Try.prog f73.c10 [(0, .p (.str s)), (1, .p (.int .i64 p)), (4, .ref (.l 0) 0), (5, .p (.int .i64 (p + n : Nat))), (73, .p (.bool true))] H [.cells [.p (.int .u8 0), .p (.str ⟨#[]⟩), .p (.int .i64 0), .p (.int .i64 0)]]
        (endQ f73 fun r' H' => r' = .p (tokP (numL l).1 (ofL (l.take (numL l).2.1)) p (p + (numL l).2.2 : Nat)) ∧ H' = H) := by
      intro ho hle
      rw [if_pos ho] at ha
      rw [ha]
      (conv => whnf)
      refine ⟨⟨by omega, by omega, by omega⟩, ?_⟩
      (conv => whnf)
      rw [cut1 n (by omega), IntWalk.i64_in _ (by omega)]
      exact ⟨rfl, rfl⟩
    (conv => whnf)
    rw [IntWalk.i64_in _ (by omega)]
    refine splitB_dec (fun h3 => ?_) (fun h3 => ?_)
    rotate_left
    · have ho : ofB (l.drop n) = false := by
        cases hb : ofB (l.drop n) with
        | false => rfl
        | true =>
          have hpb : preB ofS (l.drop n) = true := by
            cases h : preB ofS (l.drop n) with
            | true => rfl
            | false => rw [ofB, h] at hb; cases hb
          have := preB_len hpb
          rw [List.length_drop] at this
          have h3' : ofS.length = 3 := rfl
          omega
      rw [ho] at ha
      repeat' ((conv => whnf); first | refine splitB_t rfl ?_ | refine splitB_f rfl ?_ | done)
      have q := plain ha
      (conv at q => whnf)
      (conv => whnf)
      exact q
    (conv => whnf)
    rw [IntWalk.i64_in _ (by omega)]
    refine ⟨⟨by omega, by omega, by omega⟩, ?_⟩
    (conv => whnf)
    have hex : s.extract (Int.toNat ((p + n : Nat) : Int)) (Int.toNat (((p + n : Nat) : Int) + 3)) = ofL ((l.drop n).take 3) := by
      rw [show (((p + n : Nat) : Int) + 3).toNat = p + n + 3 by omega, Int.toNat_natCast]; exact ext_part s (p + n) 3 hd2
    rw [hex]
    cases hb : preB ofS (l.drop n) with
    | false =>
      have ho : ofB (l.drop n) = false := by rw [ofB, hb, Bool.false_and]
      rw [ho] at ha
      have hb' := hb
      rw [preB, decide_eq_false_iff_not] at hb'
      refine splitB_f (by rw [beq_eq_false_iff_ne, Ne, toListR_eq]; intro e; exact hb' (by have := congrArg (fun s : ByteArray => s.data.toList) e; rw [ofL_data] at this; exact this)) ?_
      repeat' ((conv => whnf); first | refine splitB_t rfl ?_ | refine splitB_f rfl ?_ | done)
      have q := plain ha
      (conv at q => whnf)
      (conv => whnf)
      exact q
    | true =>
      have hb' := hb
      rw [preB, decide_eq_true_eq] at hb'
      refine splitB_t (by rw [beq_iff_eq, toListR_eq, show (3 : Nat) = ofS.length from rfl, hb']; rfl) ?_
      (conv => whnf)
      rw [IntWalk.i64_in _ (by omega)]
      cases hm : (l.drop n).drop 3 with
      | nil =>
        have ho : ofB (l.drop n) = true := by rw [ofB, hb, hm]; rfl
        have hsz : p + n + 3 = s.size := by
          have := congrArg List.length hm
          rw [List.length_drop, List.length_drop, List.length_nil] at this
          omega
        refine splitB_t (beq_iff_eq.2 (by omega)) ?_
        repeat' ((conv => whnf); first | refine splitB_t rfl ?_ | refine splitB_f rfl ?_ | done)
        have q := isof ho (by omega)
        (conv at q => whnf)
        (conv => whnf)
        exact q
      | cons a m =>
        have hd3 : s.data.toList.drop (p + n + 3) = a :: m := by rw [← List.drop_drop, hd2, hm]
        have hl3 := sz_lt hd3
        have hg3 := (drop_cons hd3).1
        refine splitB_f (beq_eq_false_iff_ne.2 (by omega)) ?_
        (conv => whnf)
        rw [IntWalk.i64_in _ (by omega)]
        refine ⟨a, ⟨by omega, by rw [show (((p + n : Nat) : Int) + 3).toNat = p + n + 3 by omega]; exact hg3⟩, ?_⟩
        (conv => whnf)
        refine CallVC.pureF (refLetter_spec _) rfl ?_
        (conv => whnf)
        cases hla : letterB a.toNat with
        | true =>
          have ho : ofB (l.drop n) = false := by rw [ofB, hb, hm]; simp [lett, hla]
          rw [ho] at ha
          refine splitB_f rfl ?_
          repeat' ((conv => whnf); first | refine splitB_t rfl ?_ | refine splitB_f rfl ?_ | done)
          have q := plain ha
          (conv at q => whnf)
          (conv => whnf)
          exact q
        | false =>
          refine splitB_t rfl ?_
          (conv => whnf)
          rw [IntWalk.i64_in _ (by omega)]
          refine ⟨a, ⟨by omega, by rw [show (((p + n : Nat) : Int) + 3).toNat = p + n + 3 by omega]; exact hg3⟩, ?_⟩
          (conv => whnf)
          refine CallVC.pureF (refDigit_spec _) rfl ?_
          (conv => whnf)
          cases hda : digitB a.toNat with
          | true =>
            have ho : ofB (l.drop n) = false := by rw [ofB, hb, hm]; simp [lett, dig, hla, hda]
            rw [ho] at ha
            repeat' ((conv => whnf); first | refine splitB_t rfl ?_ | refine splitB_f rfl ?_ | done)
            have q := plain ha
            (conv at q => whnf)
            (conv => whnf)
            exact q
          | false =>
            have ho : ofB (l.drop n) = true := by rw [ofB, hb, hm]; simp [lett, dig, hla, hda]
            repeat' ((conv => whnf); first | refine splitB_t rfl ?_ | refine splitB_f rfl ?_ | done)
            have q := isof ho (by omega)
            (conv at q => whnf)
            (conv => whnf)
            exact q
  (conv => whnf)
  refine CallVC.pureF hD rfl ?_
  (conv => whnf)
  rw [IntWalk.i64_in _ (by omega)]
  refine splitB_dec (fun h1 => ?_) (fun h1 => ?_)
  rotate_left
  · have hne : numL l = (if ofB (l.drop n) = true then (5, n, n + 3) else (2, n, n)) := by
      rw [hdef]
      have hlen2 : (l.drop n).length ≤ 1 := by rw [List.length_drop]; omega
      match hm : l.drop n with
      | [] => rfl
      | [c] =>
        simp only
        have : ofB [c] = false := by
          cases hb : preB ofS [c] with
          | false => rw [ofB, hb]; rfl
          | true => have := preB_len hb; simp [ofS] at this
        rw [this]; rfl
      | c :: d :: m => rw [hm] at hlen2; simp only [List.length_cons] at hlen2; omega
    repeat' ((conv => whnf); first | refine splitB_t rfl ?_ | refine splitB_f rfl ?_ | done)
    have q := tailW hne
    (conv at q => whnf)
    (conv => whnf)
    exact q
  match hm : l.drop n with
  | [] => have := congrArg List.length hm; rw [List.length_drop, List.length_nil] at this; omega
  | [c] => have := congrArg List.length hm; rw [List.length_drop] at this; simp only [List.length_cons, List.length_nil] at this; omega
  | c :: d :: m =>
    rw [hm] at hdef hd2
    simp only at hdef
    obtain ⟨hgc, hdc, _⟩ := drop_cons hd2
    obtain ⟨hgd, hdd, _⟩ := drop_cons hdc
    (conv => whnf)
    refine ⟨c, ⟨by omega, by rw [Int.toNat_natCast]; exact hgc⟩, ?_⟩
    (conv => whnf)
    refine splitB_eq (fun h46 => ?_) (fun h46 => ?_)
    rotate_left
    · have n46 : c ≠ 46 := u8_ne 46 h46 rfl
      rw [if_neg (fun e => n46 e.1)] at hdef
      repeat' ((conv => whnf); first | refine splitB_t rfl ?_ | refine splitB_f rfl ?_ | done)
      have q := tailW (by rw [hm]; exact hdef)
      (conv at q => whnf)
      (conv => whnf)
      exact q
    have hc46 : c = 46 := u8_of 46 h46 rfl
    (conv => whnf)
    rw [IntWalk.i64_in _ (by omega)]
    refine ⟨d, ⟨by omega, by rw [show (((p + n : Nat) : Int) + 1).toNat = p + n + 1 by omega]; exact hgd⟩, ?_⟩
    (conv => whnf)
    refine CallVC.pureF (refDigit_spec _) rfl ?_
    (conv => whnf)
    cases hdg : digitB d.toNat with
    | false =>
      rw [if_neg (by rintro ⟨_, e⟩; rw [show dig d = digitB d.toNat from rfl, hdg] at e; cases e)] at hdef
      repeat' ((conv => whnf); first | refine splitB_t rfl ?_ | refine splitB_f rfl ?_ | done)
      have q := tailW (by rw [hm]; exact hdef)
      (conv at q => whnf)
      (conv => whnf)
      exact q
    | true =>
      rw [if_pos ⟨hc46, hdg⟩] at hdef
      have hD2 := rDigits_spec s hs (p + n + 1) (by omega)
      have hd4 : s.data.toList.drop (p + n + 1) = l.drop (n + 1) := by rw [← hd, List.drop_drop]; congr 1
      rw [hd4] at hD2
      have hw2 := whileL_le dig (l.drop (n + 1))
      rw [List.length_drop] at hw2
      generalize whileL dig (l.drop (n + 1)) = w at hD2 hdef hw2
      rw [hdef]
      repeat' ((conv => whnf); first | refine splitB_t rfl ?_ | refine splitB_f rfl ?_ | done)
      (conv => whnf)
      rw [IntWalk.i64_in _ (by omega)]
      refine CallVC.pureF hD2 rfl ?_
      (conv => whnf)
      refine ⟨⟨by omega, by omega, by omega⟩, ?_⟩
      (conv => whnf)
      rw [show p + n + 1 + w = p + (n + 1 + w) by omega, cut1 (n + 1 + w) (by omega)]
      exact ⟨rfl, rfl⟩

/-! ### what a backslash begins -/
def resP (i : Nat) : PR → PV
  | .ok [] n => .tup [.nils, .int .i64 (i + 1 + n : Nat), .int .i64 0]
  | .ok (c :: r) n => .tup [.list 1 (bsP (c :: r)), .int .i64 (i + 1 + n : Nat), .int .i64 0]
  | .cut => .tup [.nils, .int .i64 0, .int .i64 141]
  | .bad => .tup [.nils, .int .i64 0, .int .i64 142]

theorem octal_spec (c : UInt8) : pureF Try.prog 86 [.p (.int .u8 c.toNat)] (.p (.bool (oct c))) := by
  refine pureF_of f86_ok fun H => ?_
  repeat' ((conv => whnf); (first | refine splitB_t rfl ?_ | refine splitB_f rfl ?_ | refine splitB_dec (fun h => ?_) (fun h => ?_) | refine splitB_eq (fun h => ?_) (fun h => ?_) | refine splitB_ne (fun h => ?_) (fun h => ?_) | refine splitB_intro (fun h => ?_) (fun h => ?_)))
  all_goals exact ⟨congrArg (fun b => AV.p (PV.bool b)) (by rw [Bool.eq_iff_iff]; simp [oct] <;> omega), rfl⟩

theorem rPiece_spec (s : ByteArray) (hs : s.size ≤ 65536) (i : Nat) (l : List UInt8) (hi : i < s.size) (hd : s.data.toList.drop (i + 1) = l) : pureF Try.prog 81 [.p (.str s), .p (.int .i64 i)] (.p (resP i (pieceP l))) := by
  refine pureF_of f81_ok fun H => ?_
  have hlen : l.length = s.size - (i + 1) := by rw [← hd, List.length_drop, ba_size]
  (conv => whnf)
  rw [IntWalk.i64_in _ (by omega)]
  cases l with
  | nil =>
    simp only [List.length_nil] at hlen
    refine splitB_t (decide_eq_true (by omega)) ?_
    (conv => whnf)
    exact ⟨rfl, rfl⟩
  | cons c r =>
    simp only [List.length_cons] at hlen
    have hg := (drop_cons hd).1
    refine splitB_f (decide_eq_false (by omega)) ?_
    (conv => whnf)
    rw [IntWalk.i64_in _ (by omega)]
    refine ⟨c, ⟨by omega, by rw [show ((i : Int) + 1).toNat = i + 1 by omega]; exact hg⟩, ?_⟩
    (conv => whnf)
    by_cases h34 : (c.toNat : Int) = 34
    · have hc : c = 34 := u8_of 34 h34 rfl
      refine splitB_t (beq_iff_eq.2 h34) ?_
      (conv => whnf)
      refine splitB_t (beq_iff_eq.2 h34) ?_
      (conv => whnf)
      rw [IntWalk.i64_in _ (by omega)]
      refine ⟨c, ⟨by omega, by rw [show ((i : Int) + 1).toNat = i + 1 by omega]; exact hg⟩, ?_⟩
      (conv => whnf)
      rw [IntWalk.i64_in _ (by omega)]
      have hP : pieceP (c :: r) = .ok [c] 1 := by simp only [pieceP]; rw [if_pos (.inl hc)]
      rw [hP]
      exact ⟨rfl, rfl⟩
    have n34 : c ≠ 34 := u8_ne 34 h34 rfl
    refine splitB_f (beq_eq_false_iff_ne.2 h34) ?_
    (conv => whnf)
    by_cases h92 : (c.toNat : Int) = 92
    · have hc : c = 92 := u8_of 92 h92 rfl
      refine splitB_t (beq_iff_eq.2 h92) ?_
      (conv => whnf)
      rw [IntWalk.i64_in _ (by omega)]
      refine ⟨c, ⟨by omega, by rw [show ((i : Int) + 1).toNat = i + 1 by omega]; exact hg⟩, ?_⟩
      (conv => whnf)
      rw [IntWalk.i64_in _ (by omega)]
      have hP : pieceP (c :: r) = .ok [c] 1 := by simp only [pieceP]; rw [if_pos (.inr hc)]
      rw [hP]
      exact ⟨rfl, rfl⟩
    have n92 : c ≠ 92 := u8_ne 92 h92 rfl
    have n1 : ¬ (c = 34 ∨ c = 92) := fun h => h.elim n34 n92
    refine splitB_f (beq_eq_false_iff_ne.2 h92) ?_
    (conv => whnf)
    refine splitB_eq (fun h110 => ?_) (fun h110 => ?_)
    · (conv => whnf)
      rw [IntWalk.i64_in _ (by omega)]
      have hP : pieceP (c :: r) = .ok [10] 1 := by simp only [pieceP]; rw [if_neg n1, if_pos (u8_of 110 h110 rfl)]
      rw [hP]
      exact ⟨rfl, rfl⟩
    have n110 : c ≠ 110 := u8_ne 110 h110 rfl
    (conv => whnf)
    refine splitB_eq (fun h116 => ?_) (fun h116 => ?_)
    · (conv => whnf)
      rw [IntWalk.i64_in _ (by omega)]
      have hP : pieceP (c :: r) = .ok [9] 1 := by simp only [pieceP]; rw [if_neg n1, if_neg n110, if_pos (u8_of 116 h116 rfl)]
      rw [hP]
      exact ⟨rfl, rfl⟩
    have n116 : c ≠ 116 := u8_ne 116 h116 rfl
    (conv => whnf)
    refine splitB_eq (fun h114 => ?_) (fun h114 => ?_)
    · (conv => whnf)
      rw [IntWalk.i64_in _ (by omega)]
      have hP : pieceP (c :: r) = .ok [13] 1 := by simp only [pieceP]; rw [if_neg n1, if_neg n110, if_neg n116, if_pos (u8_of 114 h114 rfl)]
      rw [hP]
      exact ⟨rfl, rfl⟩
    have n114 : c ≠ 114 := u8_ne 114 h114 rfl
    (conv => whnf)
    refine splitB_eq (fun h10 => ?_) (fun h10 => ?_)
    · have hP : pieceP (c :: r) = .ok [] (1 + whileL spc r) := by simp only [pieceP]; rw [if_neg n1, if_neg n110, if_neg n116, if_neg n114, if_pos (u8_of 10 h10 rfl)]
      rw [hP]
      have hd' := (drop_cons hd).2.1
      (conv => whnf)
      rw [IntWalk.i64_in _ (by omega)]
      intro R hR
      have key : ∀ (rest : List UInt8) (k : Nat), s.data.toList.drop k = rest → k + whileL spc rest = i + 2 + whileL spc r → R [(0, .p (.str s)), (7, .p (.int .i64 k))] H [] := by
        intro rest
        induction rest with
        | nil =>
          intro k hk hq
          have hl := sz_le hk
          simp only [whileL] at hq
          refine hR _ _ _ ?_
          (conv => whnf)
          refine splitB_f (decide_eq_false (by omega)) ?_
          repeat' ((conv => whnf); first | refine splitB_t rfl ?_ | refine splitB_f rfl ?_ | done)
          (conv => whnf)
          rw [show k = i + 1 + (1 + whileL spc r) by omega]
          exact ⟨rfl, rfl⟩
        | cons d rest ih =>
          intro k hk hq
          obtain ⟨hg2, hk', _⟩ := drop_cons hk
          have hl := sz_lt hk
          have goon : spc d = true → R [(0, .p (.str s)), (7, .p (.int .i64 ((k : Int) + 1)))] H [] := fun hb => by
            simp only [whileL] at hq
            rw [if_pos hb] at hq
            exact ih (k + 1) hk' (by omega)
          refine hR _ _ _ ?_
          (conv => whnf)
          refine splitB_t (decide_eq_true (by omega)) ?_
          (conv => whnf)
          refine ⟨d, ⟨by omega, by rw [Int.toNat_natCast]; exact hg2⟩, ?_⟩
          (conv => whnf)
          refine splitB_eq (fun k9 => ?_) (fun k9 => ?_)
          · repeat' ((conv => whnf); first | refine splitB_t rfl ?_ | refine splitB_f rfl ?_ | done)
            (conv => whnf)
            rw [IntWalk.i64_in _ (by omega)]
            exact goon (by rw [u8_of 9 k9 rfl]; rfl)
          (conv => whnf)
          refine ⟨d, ⟨by omega, by rw [Int.toNat_natCast]; exact hg2⟩, ?_⟩
          (conv => whnf)
          refine splitB_eq (fun k13 => ?_) (fun k13 => ?_)
          · repeat' ((conv => whnf); first | refine splitB_t rfl ?_ | refine splitB_f rfl ?_ | done)
            (conv => whnf)
            rw [IntWalk.i64_in _ (by omega)]
            exact goon (by rw [u8_of 13 k13 rfl]; rfl)
          (conv => whnf)
          refine ⟨d, ⟨by omega, by rw [Int.toNat_natCast]; exact hg2⟩, ?_⟩
          (conv => whnf)
          refine splitB_eq (fun k32 => ?_) (fun k32 => ?_)
          · repeat' ((conv => whnf); first | refine splitB_t rfl ?_ | refine splitB_f rfl ?_ | done)
            (conv => whnf)
            rw [IntWalk.i64_in _ (by omega)]
            exact goon (by rw [u8_of 32 k32 rfl]; rfl)
          have hb : spc d = false := by
            unfold spc
            rw [decide_eq_false (u8_ne 32 k32 rfl), decide_eq_false (u8_ne 9 k9 rfl), decide_eq_false (u8_ne 13 k13 rfl)]; rfl
          simp only [whileL] at hq
          rw [if_neg (by rw [hb]; simp)] at hq
          repeat' ((conv => whnf); first | refine splitB_t rfl ?_ | refine splitB_f rfl ?_ | done)
          (conv => whnf)
          rw [show k = i + 1 + (1 + whileL spc r) by omega]
          exact ⟨rfl, rfl⟩
      exact key r (i + 2) hd' rfl
    have n10 : c ≠ 10 := u8_ne 10 h10 rfl
    have hP : pieceP (c :: r) = digF 3 0 (c :: r) := by simp only [pieceP]; rw [if_neg n1, if_neg n110, if_neg n116, if_neg n114, if_neg n10]
    rw [hP]
    generalize hT : digF 3 0 (c :: r) = T
    (conv => whnf)
    intro R hR
    have key : ∀ (m v k : Nat) (rest : List UInt8), s.data.toList.drop (i + k) = rest → k + m = 4 → ((m = 3 ∧ v = 0) ∨ (m = 2 ∧ v ≤ 7) ∨ (m = 1 ∧ v ≤ 63) ∨ (m = 0 ∧ v ≤ 511)) → digF m v rest = T →
        R [(0, .p (.str s)), (1, .p (.int .i64 i)), (8, .p (.int .i64 v)), (9, .p (.int .i64 k))] H [] := by
      intro m
      induction m with
      | zero =>
        intro v k rest hk hm hv hq
        have hv : v ≤ 511 := by omega
        refine hR _ _ _ ?_
        (conv => whnf)
        refine splitB_f (decide_eq_false (by omega)) ?_
        (conv => whnf)
        simp only [digF] at hq
        refine splitB_dec (fun hb => ?_) (fun hb => ?_)
        · rw [if_pos (by omega)] at hq
          rw [← hq]
          (conv => whnf)
          exact ⟨rfl, rfl⟩
        · rw [if_neg (by omega)] at hq
          rw [← hq]
          have hu : (UInt8.ofNat v).toNat = v := by rw [UInt8.toNat_ofNat']; omega
          (conv => whnf)
          rw [IntWalk.i64_in _ (by omega), IntWalk.u8_in _ (by omega)]
          refine ⟨?_, rfl⟩
          show _ = AV.p (PV.tup [PV.list 1 [PV.int .u8 ((UInt8.ofNat v).toNat : Int)], PV.int .i64 ((i + 1 + 3 : Nat) : Int), PV.int .i64 0])
          rw [hu]
          rfl
      | succ m ih =>
        intro v k rest hk hm hv hq
        refine hR _ _ _ ?_
        (conv => whnf)
        refine splitB_t (decide_eq_true (by omega)) ?_
        (conv => whnf)
        rw [IntWalk.i64_in _ (by omega)]
        cases rest with
        | nil =>
          have hl := sz_le hk
          simp only [digF] at hq
          rw [← hq]
          refine splitB_t (decide_eq_true (by omega)) ?_
          (conv => whnf)
          exact ⟨rfl, rfl⟩
        | cons d rest =>
          obtain ⟨hg2, hk', _⟩ := drop_cons hk
          have hl := sz_lt hk
          simp only [digF] at hq
          refine splitB_f (decide_eq_false (by omega)) ?_
          (conv => whnf)
          rw [IntWalk.i64_in _ (by omega)]
          refine ⟨d, ⟨by omega, by rw [show ((i : Int) + (k : Int)).toNat = i + k by omega]; exact hg2⟩, ?_⟩
          (conv => whnf)
          refine CallVC.pureF (octal_spec d) rfl ?_
          (conv => whnf)
          cases ho : oct d with
          | false =>
            rw [if_pos ho] at hq
            rw [← hq]
            refine splitB_t rfl ?_
            (conv => whnf)
            exact ⟨rfl, rfl⟩
          | true =>
            rw [if_neg (by rw [ho]; simp)] at hq
            have ho' := ho
            simp only [oct, Bool.and_eq_true, decide_eq_true_eq] at ho'
            refine splitB_f rfl ?_
            (conv => whnf)
            rw [IntWalk.i64_in _ (by omega)]
            refine ⟨d, ⟨by omega, by rw [show ((i : Int) + (k : Int)).toNat = i + k by omega]; exact hg2⟩, ?_⟩
            (conv => whnf)
            have e1 : IntKind.i64.wrap (IntKind.i64.wrap ((v : Int) * 8) + IntKind.i64.wrap (IntKind.u8.wrap ((d.toNat : Int) - 48))) = ((v * 8 + octV d : Nat) : Int) := by
              have : octV d = d.toNat - 48 := rfl
              rw [IntWalk.u8_in _ (by omega), IntWalk.i64_in ((d.toNat : Int) - 48) (by omega), IntWalk.i64_in ((v : Int) * 8) (by omega), IntWalk.i64_in _ (by omega)]
              omega
            rw [e1, IntWalk.i64_in ((k : Int) + 1) (by omega)]
            have hov : octV d ≤ 7 := by have : octV d = d.toNat - 48 := rfl; omega
            exact ih (v * 8 + octV d) (k + 1) rest hk' (by omega) (by omega) hq
    exact key 3 0 1 (c :: r) hd rfl (.inl ⟨rfl, rfl⟩) hT

end Go.Proofs.Ytaanmljlbhkonaa.AD

namespace Go.Proofs.Ytaanmljlbhkonaa.AD
open Go.Proofs
set_option linter.unusedVariables false
set_option linter.unusedSimpArgs false
set_option maxRecDepth 100000

theorem bsPa (a b : List UInt8) : bsP (a ++ b) = bsP a ++ bsP b := List.map_append
theorem bsPl (a : List UInt8) : (bsP a).length = a.length := List.length_map _
theorem digF_one : ∀ (m v : Nat) (l : List UInt8) (bs : List UInt8) (n : Nat), digF m v l = .ok bs n → bs.length ≤ 1
  | 0, v, l, bs, n, h => by
    simp only [digF] at h
    split at h
    · cases h
    · cases h; simp
  | m + 1, v, [], bs, n, h => by cases h
  | m + 1, v, c :: r, bs, n, h => by
    simp only [digF] at h
    split at h
    · cases h
    · exact digF_one m _ r bs n h
theorem pieceP_one {l bs : List UInt8} {n : Nat} (h : pieceP l = .ok bs n) : bs.length ≤ 1 := by
  cases l with
  | nil => cases h
  | cons c r =>
    simp only [pieceP] at h
    split at h
    · cases h; simp
    split at h
    · cases h; simp
    split at h
    · cases h; simp
    split at h
    · cases h; simp
    split at h
    · cases h; simp
    · exact digF_one 3 0 _ bs n h

theorem rQuoted_spec (s : ByteArray) (hs : s.size ≤ 65536) (p : Nat) (r : List UInt8) (hd : s.data.toList.drop p = 34 :: r) : pureF Try.prog 74 [.p (.str s), .p (.int .i64 p)] (.p (resN p (strP (r.length + 1) r 1 []))) := by
  refine pureF_of f74_ok fun H => ?_
  have hps := sz_lt hd
  have hd1 := (drop_cons hd).2.1
  generalize hT : strP (r.length + 1) r 1 [] = T
  (conv => whnf)
  rw [IntWalk.i64_in _ (by omega)]
  intro R hR
  have key : ∀ (f : Nat) (rest b : List UInt8) (i g : Nat), s.data.toList.drop (p + i) = rest → rest.length < f → b.length ≤ i → strP f rest i b = T →
      R [(0, .p (.str s)), (1, .p (.int .i64 p)), (4, .ref (.l 0) 0), (7, .view (.l 1) g 1 b.length), (8, .p (.int .i64 (p + i : Nat)))] H [.cells [.p (.int .u8 0), .p (.str ⟨#[]⟩), .p (.int .i64 0), .p (.int .i64 0)], .buf g 1 (bsP b)] := by
    intro f
    induction f with
    | zero => intro rest b i g h1 h2; omega
    | succ f ih =>
      intro rest b i g h1 h2 hbl h3
      refine hR _ _ _ ?_
      cases rest with
      | nil =>
        have hl := sz_le h1
        simp only [strP] at h3
        rw [← h3]
        (conv => whnf)
        refine splitB_f (decide_eq_false (by omega)) ?_
        repeat' ((conv => whnf); first | refine splitB_t rfl ?_ | refine splitB_f rfl ?_ | done)
        (conv => whnf)
        exact ⟨rfl, rfl⟩
      | cons c rest =>
        obtain ⟨hg, h1', _⟩ := drop_cons h1
        have hl := sz_lt h1
        have hal := bsPl b
        have rm : ∀ n, n ≤ 8 → room (b.length + n) 1 := fun n hn => by simp [room]; omega
        simp only [List.length_cons] at h2
        simp only [strP] at h3
        have at_c : 0 ≤ ((p + i : Nat) : Int) ∧ s.data.toList[Int.toNat ((p + i : Nat) : Int)]? = some c := ⟨by omega, by rw [Int.toNat_natCast]; exact hg⟩
        (conv => whnf)
        refine splitB_t (decide_eq_true (by omega)) ?_
        (conv => whnf)
        refine ⟨c, at_c, ?_⟩
        (conv => whnf)
        refine splitB_ne (fun h10 => ?_) (fun h10 => ?_)
        rotate_left
        · rw [if_pos (u8_of 10 h10 rfl)] at h3
          rw [← h3]
          repeat' ((conv => whnf); first | refine splitB_t rfl ?_ | refine splitB_f rfl ?_ | done)
          (conv => whnf)
          exact ⟨rfl, rfl⟩
        rw [if_neg (u8_ne 10 h10 rfl)] at h3
        (conv => whnf)
        refine ⟨c, at_c, ?_⟩
        (conv => whnf)
        refine splitB_eq (fun h34 => ?_) (fun h34 => ?_)
        · rw [if_pos (u8_of 34 h34 rfl)] at h3
          rw [← h3]
          (conv => whnf)
          refine ⟨⟨rfl, rfl, rfl, by omega⟩, bsP b, List.take_of_length_le (by omega), b, bsP_bytes b, ?_⟩
          (conv => whnf)
          rw [IntWalk.i64_in _ (by omega)]
          exact ⟨rfl, rfl⟩
        rw [if_neg (u8_ne 34 h34 rfl)] at h3
        (conv => whnf)
        refine ⟨c, at_c, ?_⟩
        (conv => whnf)
        refine splitB_ne (fun h92 => ?_) (fun h92 => ?_)
        · rw [if_neg (u8_ne 92 h92 rfl)] at h3
          (conv => whnf)
          refine ⟨c, at_c, ?_⟩
          (conv => whnf)
          refine ⟨rfl, ?_⟩
          (conv => whnf)
          refine ⟨⟨rfl, rfl, rfl, by omega⟩, rm _ (by simp), bsP b ++ bsP [c], by rw [List.take_of_length_le (by omega)]; rfl, ?_⟩
          (conv => whnf)
          rw [IntWalk.i64_in _ (by omega)]
          have q := ih rest (b ++ [c]) (i + 1) (g + 1) h1' (by omega) (by rw [List.length_append]; simp only [List.length_cons, List.length_nil]; omega) h3
          rw [bsPa, List.length_append] at q
          exact q
        rw [if_pos (u8_of 92 h92 rfl)] at h3
        have hP := rPiece_spec s hs (p + i) rest hl h1'
        (conv => whnf)
        refine CallVC.pureF hP rfl ?_
        cases hp : pieceP rest with
        | cut =>
          rw [hp] at h3
          simp only at h3
          rw [← h3]
          (conv => whnf)
          refine splitB_t rfl ?_
          (conv => whnf)
          exact ⟨rfl, rfl⟩
        | bad =>
          rw [hp] at h3
          simp only at h3
          rw [← h3]
          (conv => whnf)
          refine splitB_f rfl ?_
          (conv => whnf)
          refine splitB_t rfl ?_
          (conv => whnf)
          exact ⟨rfl, rfl⟩
        | ok bs n =>
          rw [hp] at h3
          simp only at h3
          obtain ⟨p1, p2⟩ := pieceP_len hp
          have p3 := pieceP_one hp
          have hd2 : s.data.toList.drop (p + (i + 1 + n)) = rest.drop n := by rw [show p + (i + 1 + n) = p + i + 1 + n by omega, ← List.drop_drop, h1']
          have q := ih (rest.drop n) (b ++ bs) (i + 1 + n) (g + 1) hd2 (by rw [List.length_drop]; omega) (by rw [List.length_append]; omega) h3
          rw [bsPa, List.length_append] at q
          cases bs with
          | nil =>
            repeat' ((conv => whnf); first | refine splitB_t rfl ?_ | refine splitB_f rfl ?_ | done)
            (conv => whnf)
            refine ⟨⟨rfl, rfl, rfl, by omega⟩, by simp [room]; omega, bsP b ++ bsP [], by rw [List.take_of_length_le (by omega)]; rfl, ?_⟩
            (conv => whnf)
            rw [show p + i + 1 + n = p + (i + 1 + n) by omega]
            exact q
          | cons x bs =>
            repeat' ((conv => whnf); first | refine splitB_t rfl ?_ | refine splitB_f rfl ?_ | done)
            (conv => whnf)
            refine ⟨rfl, ?_⟩
            (conv => whnf)
            refine ⟨⟨rfl, rfl, rfl, by omega⟩, by rw [bsPl]; simp only [room]; omega, bsP b ++ bsP (x :: bs), by rw [List.take_of_length_le (by omega)], ?_⟩
            (conv => whnf)
            rw [show p + i + 1 + n = p + (i + 1 + n) by omega]
            have e2 : (bsP (x :: bs)).length = (x :: bs).length := bsPl _
            rw [e2]
            exact q
  exact key (r.length + 1) r [] 1 0 hd1 (by omega) (by simp) hT

end Go.Proofs.Ytaanmljlbhkonaa.AD

namespace Go.Proofs.Ytaanmljlbhkonaa.AD
open Go.Proofs
set_option linter.unusedVariables false
set_option linter.unusedSimpArgs false
set_option maxRecDepth 100000

theorem rNext_spec (s : ByteArray) (hs : s.size ≤ 65536) (p : Nat) (c : UInt8) (r : List UInt8) (hd : s.data.toList.drop p = c :: r) : pureF Try.prog 54 [.p (.str s), .p (.int .i64 p)] (.p (resN p (nextP (c :: r)))) := by
  refine pureF_of f54_ok fun H => ?_
  obtain ⟨hg, hd', _⟩ := drop_cons hd
  have hps := sz_lt hd
  have at_c : 0 ≤ ((p : Nat) : Int) ∧ s.data.toList[Int.toNat ((p : Nat) : Int)]? = some c := ⟨by omega, by rw [Int.toNat_natCast]; exact hg⟩
  have cut1 : ∀ e : Nat, p + e ≤ s.size → s.extract (Int.toNat (p : Int)) (Int.toNat ((p + e : Nat) : Int)) = ofL ((c :: r).take e) := fun e he => by
    rw [Int.toNat_natCast, Int.toNat_natCast]; exact ext_part s p e hd
  have hlen : (c :: r).length = s.size - p := by rw [← hd, List.length_drop, ba_size]
  (conv => whnf)
  refine ⟨c, at_c, ?_⟩
  (conv => whnf)
  refine CallVC.pureF (refLetter_spec _) rfl ?_
  (conv => whnf)
  cases hla : letterB c.toNat with
  | true =>
    have hP : nextP (c :: r) = .tok 1 (ofL ((c :: r).take (whileL nam (c :: r)))) (whileL nam (c :: r)) := by simp only [nextP]; rw [if_pos hla]
    have hw := whileL_le nam (c :: r)
    rw [hP]
    generalize hn : whileL nam (c :: r) = n at hw
    refine splitB_t rfl ?_
    (conv => whnf)
    intro R hR
    have key : ∀ (rest : List UInt8) (k : Nat), s.data.toList.drop k = rest → k + whileL nam rest = p + n → R [(0, .p (.str s)), (1, .p (.int .i64 p)), (4, .ref (.l 0) 0), (7, .p (.int .i64 k))] H [.cells [.p (.int .u8 0), .p (.str ⟨#[]⟩), .p (.int .i64 0), .p (.int .i64 0)]] := by
      intro rest
      induction rest with
      | nil =>
        intro k hk hq
        have hl := sz_le hk
        simp only [whileL] at hq
        refine hR _ _ _ ?_
        (conv => whnf)
        refine splitB_f (decide_eq_false (by omega)) ?_
        repeat' ((conv => whnf); first | refine splitB_t rfl ?_ | refine splitB_f rfl ?_ | done)
        (conv => whnf)
        rw [show k = p + n by omega]
        refine ⟨⟨by omega, by omega, by omega⟩, ?_⟩
        (conv => whnf)
        rw [cut1 n (by omega)]
        exact ⟨rfl, rfl⟩
      | cons d rest ih =>
        intro k hk hq
        obtain ⟨hg2, hk', _⟩ := drop_cons hk
        have hl := sz_lt hk
        refine hR _ _ _ ?_
        (conv => whnf)
        refine splitB_t (decide_eq_true (by omega)) ?_
        (conv => whnf)
        refine ⟨d, ⟨by omega, by rw [Int.toNat_natCast]; exact hg2⟩, ?_⟩
        (conv => whnf)
        refine CallVC.pureF (refLetter_spec _) rfl ?_
        (conv => whnf)
        have goon : nam d = true → R [(0, .p (.str s)), (1, .p (.int .i64 p)), (4, .ref (.l 0) 0), (7, .p (.int .i64 ((k : Int) + 1)))] H [.cells [.p (.int .u8 0), .p (.str ⟨#[]⟩), .p (.int .i64 0), .p (.int .i64 0)]] := fun hb => by
          simp only [whileL] at hq
          rw [if_pos hb] at hq
          exact ih (k + 1) hk' (by omega)
        cases hl2 : letterB d.toNat with
        | true =>
          repeat' ((conv => whnf); first | refine splitB_t rfl ?_ | refine splitB_f rfl ?_ | done)
          (conv => whnf)
          rw [IntWalk.i64_in _ (by omega)]
          exact goon (by simp [nam, lett, hl2])
        | false =>
          refine splitB_f rfl ?_
          (conv => whnf)
          refine ⟨d, ⟨by omega, by rw [Int.toNat_natCast]; exact hg2⟩, ?_⟩
          (conv => whnf)
          refine CallVC.pureF (refDigit_spec _) rfl ?_
          (conv => whnf)
          cases hd2 : digitB d.toNat with
          | true =>
            repeat' ((conv => whnf); first | refine splitB_t rfl ?_ | refine splitB_f rfl ?_ | done)
            (conv => whnf)
            rw [IntWalk.i64_in _ (by omega)]
            exact goon (by simp [nam, dig, hd2])
          | false =>
            have hb : nam d = false := by simp [nam, lett, dig, hl2, hd2]
            simp only [whileL] at hq
            rw [if_neg (by rw [hb]; simp)] at hq
            repeat' ((conv => whnf); first | refine splitB_t rfl ?_ | refine splitB_f rfl ?_ | done)
            (conv => whnf)
            rw [show k = p + n by omega]
            refine ⟨⟨by omega, by omega, by omega⟩, ?_⟩
            (conv => whnf)
            rw [cut1 n (by omega)]
            exact ⟨rfl, rfl⟩
    exact key (c :: r) p hd (by rw [hn])
  | false =>
    refine splitB_f rfl ?_
    (conv => whnf)
    refine ⟨c, at_c, ?_⟩
    (conv => whnf)
    refine CallVC.pureF (refDigit_spec _) rfl ?_
    (conv => whnf)
    cases hda : digitB c.toNat with
    | true =>
      refine splitB_t rfl ?_
      (conv => whnf)
      refine CallVC.pureF (rNumber_spec s hs p (c :: r) (by omega) hd) rfl ?_
      (conv => whnf)
      have hP : nextP (c :: r) = .tok (numL (c :: r)).1 (ofL ((c :: r).take (numL (c :: r)).2.1)) (numL (c :: r)).2.2 := by
        simp only [nextP]; rw [if_neg (by rw [show lett c = letterB c.toNat from rfl, hla]; simp), if_pos hda]
      rw [hP]
      exact ⟨rfl, rfl⟩
    | false =>
      refine splitB_f rfl ?_
      (conv => whnf)
      refine ⟨c, at_c, ?_⟩
      (conv => whnf)
      have n1 : ¬ lett c = true := by rw [show lett c = letterB c.toNat from rfl, hla]; simp
      have n2 : ¬ dig c = true := by rw [show dig c = digitB c.toNat from rfl, hda]; simp
      refine splitB_eq (fun h34 => ?_) (fun h34 => ?_)
      · have hc : c = 34 := u8_of 34 h34 rfl
        have hP : nextP (c :: r) = strP (r.length + 1) r 1 [] := by simp only [nextP]; rw [if_neg n1, if_neg n2, if_pos hc]
        rw [hP]
        (conv => whnf)
        refine CallVC.pureF (rQuoted_spec s hs p r (by rw [hd, hc])) rfl ?_
        cases hS : strP (r.length + 1) r 1 [] with
        | err o e =>
          (conv => whnf)
          exact ⟨rfl, rfl⟩
        | tok k x len =>
          (conv => whnf)
          exact ⟨rfl, rfl⟩
      · have hc : c ≠ 34 := u8_ne 34 h34 rfl
        (conv => whnf)
        refine CallVC.pureF (rSign_spec s hs p c r hd) rfl ?_
        (conv => whnf)
        have hsl := signL_le c r
        have hP : nextP (c :: r) = if 0 < signL (c :: r) then .tok 6 (ofL ((c :: r).take (signL (c :: r)))) (signL (c :: r)) else .err 0 140 := by
          simp only [nextP]; rw [if_neg n1, if_neg n2, if_neg hc]
        rw [hP]
        generalize signL (c :: r) = n at hsl
        refine splitB_eq (fun h0 => ?_) (fun h0 => ?_)
        · rw [if_neg (by omega)]
          (conv => whnf)
          exact ⟨rfl, rfl⟩
        · rw [if_pos (by omega)]
          (conv => whnf)
          rw [IntWalk.i64_in _ (by omega)]
          refine ⟨⟨by omega, by omega, by omega⟩, ?_⟩
          (conv => whnf)
          rw [show (p : Int) + (n : Int) = ((p + n : Nat) : Int) by omega, cut1 n (by omega), IntWalk.i64_in _ (by omega)]
          exact ⟨rfl, rfl⟩

end Go.Proofs.Ytaanmljlbhkonaa.AD

namespace Go.Proofs.Ytaanmljlbhkonaa.AD
open Go.Proofs
set_option linter.unusedVariables false
set_option linter.unusedSimpArgs false
set_option maxRecDepth 100000

theorem rTokens_spec (s : ByteArray) (hsz : (s.size : Int) ≤ 9223372036854775807) : pureF Try.prog 32 [.p (.str s)] (.p (resT (tokensR s))) := by
  refine pureF_of f32_ok fun H => ?_
  (conv => whnf)
  refine splitB_dec (fun h => ?_) (fun h => ?_)
  · have hR : tokensR s = .err 0 3 := by rw [tokensR, if_pos (by omega)]
    rw [hR]
    (conv => whnf)
    exact ⟨rfl, rfl⟩
  have hs : s.size ≤ 65536 := by omega
  have hR : tokensR s = tokG (s.size + 1) (s.data.toList.drop (skipF false s.data.toList)) (skipF false s.data.toList) [] := by rw [tokensR, if_neg (by omega)]
  rw [hR]
  generalize hZ : tokG (s.size + 1) (s.data.toList.drop (skipF false s.data.toList)) (skipF false s.data.toList) [] = Z
  (conv => whnf)
  refine CallVC.pureF (rBlanks_spec s hs 0 (by omega)) rfl ?_
  rw [show 0 + skipF false (s.data.toList.drop 0) = skipF false s.data.toList by simp]
  (conv => whnf)
  intro R hR2
  have key : ∀ (f : Nat) (l : List UInt8) (q g : Nat) (acc : List Tok), l.length < f → s.data.toList.drop q = l → q ≤ s.size → acc.length ≤ 8192 → tokG f l q acc = Z →
      R [(0, .p (.str s)), (5, .view (.l 0) g 4 acc.length), (6, .p (.int .i64 q))] H [.buf g 4 (acc.map tkP)] := by
    intro f
    induction f with
    | zero => intro l q g acc h; omega
    | succ f ih =>
      intro l q g acc hf hd hq ha hz
      refine hR2 _ _ _ ?_
      cases l with
      | nil =>
        have := sz_le hd
        simp only [tokG] at hz
        subst hz
        (conv => whnf)
        refine splitB_f (decide_eq_false (by omega)) ?_
        (conv => whnf)
        exact ⟨⟨rfl, rfl⟩, .inl ⟨acc.map tkP, by simp, List.take_of_length_le (by simp), rfl, rfl⟩⟩
      | cons c t =>
        have hql := sz_lt hd
        (conv => whnf)
        refine splitB_t (decide_eq_true (by omega)) ?_
        (conv => whnf)
        refine ⟨rfl, ?_⟩
        have hlen : t.length + 1 = s.size - q := by
          have := congrArg List.length hd
          rw [List.length_drop, ← ba_size] at this
          simpa using this.symm
        simp only [tokG] at hz
        have hnx := rNext_spec s hs q c t hd
        have hml : (acc.map tkP).length = acc.length := List.length_map _
        (conv => whnf)
        refine splitB_eq (fun h8 => ?_) (fun h8 => ?_)
        · rw [if_pos (by omega)] at hz
          subst hz
          (conv => whnf)
          exact ⟨rfl, rfl⟩
        rw [if_neg (by omega)] at hz
        (conv => whnf)
        refine CallVC.pureF hnx rfl ?_
        cases hN : nextP (c :: t) with
        | err o e =>
          rw [hN] at hz
          obtain ⟨he, ho⟩ := nextP_err c t hN
          subst hz
          (conv => whnf)
          refine splitB_t (by rcases he with rfl | rfl | rfl <;> rfl) ?_
          (conv => whnf)
          exact ⟨rfl, rfl⟩
        | tok k x len =>
          rw [hN] at hz
          obtain ⟨hl1, hl2⟩ := nextP_len c t hN
          simp only [List.length_cons] at hl2
          (conv => whnf)
          refine splitB_f rfl ?_
          (conv => whnf)
          refine ⟨rfl, ?_⟩
          (conv => whnf)
          refine ⟨⟨rfl, rfl, rfl, by omega⟩, by simp only [room]; simp; omega, (acc ++ [(⟨k, x, q, q + len⟩ : Tok)]).map tkP, by rw [List.take_of_length_le (by omega)]; simp [tkP, tokP], ?_⟩
          (conv => whnf)
          have hd2 : s.data.toList.drop (q + len) = (c :: t).drop len := by rw [← List.drop_drop, hd]
          refine CallVC.pureF (rBlanks_spec s hs (q + len) (by omega)) rfl ?_
          (conv => whnf)
          have hsk := skipF_le ((c :: t).drop len) false
          rw [List.length_drop, List.length_cons] at hsk
          have q2 := ih (((c :: t).drop len).drop (skipF false ((c :: t).drop len))) (q + len + skipF false (s.data.toList.drop (q + len))) (g + 1) (acc ++ [(⟨k, x, q, q + len⟩ : Tok)])
            (by rw [List.length_drop, List.length_drop, List.length_cons]; simp only [List.length_cons] at hf; omega) (by rw [← List.drop_drop, hd2]) (by rw [hd2]; omega) (by simp; omega) (by rw [hd2]; exact hz)
          rw [List.length_append] at q2
          exact q2
  refine key _ _ _ 0 [] ?_ rfl ?_ (by simp) hZ
  · rw [List.length_drop, ← ba_size]; omega
  · have := skipF_le s.data.toList false
    rw [← ba_size] at this
    exact this

end Go.Proofs.Ytaanmljlbhkonaa.AD

namespace Go.Proofs.Ytaanmljlbhkonaa.AD
open Go.Proofs
set_option linter.unusedVariables false
set_option linter.unusedSimpArgs false
set_option maxRecDepth 100000

theorem leaf_le (o : Int) (t : ByteArray) : PV.le (.agg [.int .u8 o, .str t, .nils]) (enc (.mk o t [])) :=
  .agg (.cons _ _ _ _ (.refl _) (.cons _ _ _ _ (.refl _) (.cons _ _ _ _ (.nils 3) .nil)))
theorem Meth.ofLe {P : Program} {own : List Nat} {f : Nat} {ir : IF} {args : List AV} {os os' : List Ob} {r : PV} (hc : compF P own f = some ir.bare) (h : ∀ rest, fnV P ir args (os ++ rest) fun r' H' => (∃ p, r' = .p p ∧ p.le r) ∧ H' = os' ++ rest) : Meth P f args os r os' := fun rest μ w xs hi hx => by
  refine Calls.mono' (sound hc (h rest) μ w xs hi hx) ?_
  rintro e w' ⟨v, r1, H', μ', h1, ⟨⟨p, rfl, hl⟩, rfl⟩, h3, h4, h5⟩
  exact ⟨v, .p r, _, μ', h1, ⟨rfl, rfl⟩, h3, (by cases h4 with | p _ _ h => exact .p _ _ (hl _ _ _ h)), h5⟩

structure RS where
  a : Nat
  deep : Nat
  wrong : Int
  place : Int
def rsO (L : List Tok) (en : Nat) (st : RS) : List Ob := [.cells [.p (.list 4 (L.map tkP)), .p (.int .i64 st.a), .p (.int .i64 en), .p (.int .i64 st.deep), .p (.int .i64 st.wrong), .p (.int .i64 st.place)]]
def isR (L : List Tok) (st : RS) (sign : ByteArray) : Bool := decide (st.wrong = 0) && (match L[st.a]? with
  | some t => decide (t.k = 6) && (t.t.data.toList == sign.data.toList)
  | none => false)
def anyR (L : List Tok) (st : RS) : List ByteArray → Nat → Option Nat
  | [], _ => none
  | s :: r, i => if isR L st s = true then some i else anyR L st r (i + 1)
def failR (L : List Tok) (en : Nat) (st : RS) (e : Int) : RS := if st.wrong = 0 then ⟨st.a, st.deep, e, match L[st.a]? with
  | some t => (t.a : Int)
  | none => (en : Int)⟩ else st
def mustR (L : List Tok) (en : Nat) (st : RS) (sign : ByteArray) : RS := if isR L st sign = true then ⟨st.a + 1, st.deep, st.wrong, st.place⟩ else failR L en st 150
def downR (L : List Tok) (en : Nat) (st : RS) : RS := if st.deep = 64 then failR L en st 3 else ⟨st.a + 1, st.deep + 1, st.wrong, st.place⟩

theorem is_spec (L : List Tok) (hL : L.length ≤ 8192) (en : Nat) (st : RS) (sign : ByteArray) : Meth Try.prog 55 [.ref (.b 0) 0, .p (.str sign)] (rsO L en st) (.bool (isR L st sign)) (rsO L en st) := by
  refine Meth.of f55_ok fun rest => ?_
  have hml : (L.map tkP).length = L.length := List.length_map _
  (conv => whnf)
  refine splitB_eq (fun h0 => ?_) (fun h0 => ?_)
  rotate_left
  · have hb : isR L st sign = false := by rw [isR, decide_eq_false h0]; rfl
    rw [hb]
    repeat' ((conv => whnf); first | refine splitB_t rfl ?_ | refine splitB_f rfl ?_ | done)
    exact ⟨rfl, rfl⟩
  (conv => whnf)
  refine splitB_dec (fun h1 => ?_) (fun h1 => ?_)
  rotate_left
  · have hb : isR L st sign = false := by rw [isR, List.getElem?_eq_none (by omega)]; simp
    rw [hb]
    repeat' ((conv => whnf); first | refine splitB_t rfl ?_ | refine splitB_f rfl ?_ | done)
    exact ⟨rfl, rfl⟩
  have hg : L[st.a]? = some L[st.a] := List.getElem?_eq_getElem (by omega)
  generalize L[st.a] = t at hg
  have hb : isR L st sign = (decide (t.k = 6) && (t.t.data.toList == sign.data.toList)) := by rw [isR, decide_eq_true h0, hg]; rfl
  rw [hb]
  (conv => whnf)
  refine ⟨rfl, tkP t, ⟨by omega, by rw [Int.toNat_natCast, List.getElem?_map, hg]; rfl⟩, ?_⟩
  (conv => whnf)
  refine splitB_eq (fun h2 => ?_) (fun h2 => ?_)
  rotate_left
  · rw [decide_eq_false h2]
    repeat' ((conv => whnf); first | refine splitB_t rfl ?_ | refine splitB_f rfl ?_ | done)
    exact ⟨rfl, rfl⟩
  rw [decide_eq_true h2]
  (conv => whnf)
  refine ⟨rfl, tkP t, ⟨by omega, by rw [Int.toNat_natCast, List.getElem?_map, hg]; rfl⟩, ?_⟩
  (conv => whnf)
  rw [ba_toList, ba_toList]
  exact ⟨rfl, rfl⟩

def anyP : Option Nat → PV
  | none => .int .i64 (-1)
  | some i => .int .i64 i
theorem anyR_lt (L : List Tok) (st : RS) : ∀ (l : List ByteArray) (i k : Nat), anyR L st l i = some k → (i ≤ k ∧ k < i + l.length) ∧ st.wrong = 0 ∧ st.a < L.length
  | [], i, k, h => by cases h
  | s :: r, i, k, h => by
    simp only [anyR] at h
    split at h
    · rename_i hb
      cases h
      refine ⟨by simp, ?_⟩
      rw [isR, Bool.and_eq_true, decide_eq_true_eq] at hb
      refine ⟨hb.1, ?_⟩
      cases hg : L[st.a]? with
      | none => rw [hg] at hb; simp at hb
      | some t => exact (List.getElem?_eq_some_iff.1 hg).1
    · obtain ⟨h1, h2⟩ := anyR_lt L st r (i + 1) k h
      exact ⟨by simp only [List.length_cons]; omega, h2⟩
theorem any_spec (L : List Tok) (hL : L.length ≤ 8192) (en : Nat) (st : RS) (signs : List ByteArray) (hs : signs.length ≤ 100) : Meth Try.prog 79 [.ref (.b 0) 0, .p (.list 1 (signs.map .str))] (rsO L en st) (anyP (anyR L st signs 0)) (rsO L en st) := by
  refine Meth.of f79_ok fun rest => ?_
  have hml : (signs.map PV.str).length = signs.length := List.length_map _
  generalize hT : anyR L st signs 0 = T
  (conv => whnf)
  intro R hR
  have key : ∀ (r : List ByteArray) (i : Nat), signs.drop i = r → anyR L st r i = T → R [(0, .ref (.b 0) 0), (1, .p (.list 1 (signs.map .str))), (5, .p (.int .i64 i))] (rsO L en st ++ rest) [] := by
    intro r
    induction r with
    | nil =>
      intro i hd hq
      have hi := drop_nil hd
      simp only [anyR] at hq
      subst hq
      refine hR _ _ _ ?_
      (conv => whnf)
      refine splitB_f (decide_eq_false (by omega)) ?_
      (conv => whnf)
      exact ⟨rfl, rfl⟩
    | cons s r ih =>
      intro i hd hq
      obtain ⟨hg, hd', hil⟩ := drop_cons hd
      simp only [anyR] at hq
      refine hR _ _ _ ?_
      (conv => whnf)
      refine splitB_t (decide_eq_true (by omega)) ?_
      (conv => whnf)
      refine ⟨rfl, .str s, ⟨by omega, by rw [Int.toNat_natCast, List.getElem?_map, hg]; rfl⟩, ?_⟩
      (conv => whnf)
      refine CallVC.same (is_spec L hL en st s) rfl rfl rfl ?_
      (conv => whnf)
      cases hb : isR L st s with
      | true =>
        rw [if_pos hb] at hq
        subst hq
        refine splitB_t rfl ?_
        (conv => whnf)
        exact ⟨rfl, rfl⟩
      | false =>
        rw [if_neg (by rw [hb]; simp)] at hq
        refine splitB_f rfl ?_
        (conv => whnf)
        rw [IntWalk.i64_in _ (by omega)]
        exact ih (i + 1) hd' hq
  exact key signs 0 rfl hT

theorem fail_spec (L : List Tok) (hL : L.length ≤ 8192) (en : Nat) (st : RS) (e : Int) : Meth Try.prog 34 [.ref (.b 0) 0, .p (.int .i64 e)] (rsO L en st) (.tup []) (rsO L en (failR L en st e)) := by
  refine Meth.of f34_ok fun rest => ?_
  have hml : (L.map tkP).length = L.length := List.length_map _
  unfold failR
  (conv => whnf)
  refine splitB_ne (fun h0 => ?_) (fun h0 => ?_)
  · rw [if_neg h0]
    (conv => whnf)
    exact ⟨rfl, rfl⟩
  rw [if_pos h0]
  (conv => whnf)
  refine splitB_dec (fun h1 => ?_) (fun h1 => ?_)
  · have hg : L[st.a]? = some L[st.a] := List.getElem?_eq_getElem (by omega)
    generalize L[st.a] = t at hg
    rw [hg]
    (conv => whnf)
    refine ⟨rfl, tkP t, ⟨by omega, by rw [Int.toNat_natCast, List.getElem?_map, hg]; rfl⟩, ?_⟩
    (conv => whnf)
    exact ⟨rfl, rfl⟩
  · rw [List.getElem?_eq_none (by omega)]
    (conv => whnf)
    exact ⟨rfl, rfl⟩

theorem must_spec (L : List Tok) (hL : L.length ≤ 8192) (en : Nat) (st : RS) (sign : ByteArray) : Meth Try.prog 77 [.ref (.b 0) 0, .p (.str sign)] (rsO L en st) (.tup []) (rsO L en (mustR L en st sign)) := by
  refine Meth.of f77_ok fun rest => ?_
  unfold mustR
  (conv => whnf)
  refine CallVC.same (is_spec L hL en st sign) rfl rfl rfl ?_
  (conv => whnf)
  cases hb : isR L st sign with
  | false =>
    rw [if_neg (by simp)]
    refine splitB_t rfl ?_
    (conv => whnf)
    refine CallVC.same (fail_spec L hL en st 150) rfl rfl rfl ?_
    (conv => whnf)
    exact ⟨rfl, rfl⟩
  | true =>
    rw [if_pos rfl]
    have ha : st.a < L.length := by
      rw [isR, Bool.and_eq_true] at hb
      cases hg : L[st.a]? with
      | none => rw [hg] at hb; simp at hb
      | some t => exact (List.getElem?_eq_some_iff.1 hg).1
    refine splitB_f rfl ?_
    (conv => whnf)
    rw [IntWalk.i64_in _ (by omega)]
    exact ⟨rfl, rfl⟩

theorem down_spec (L : List Tok) (hL : L.length ≤ 8192) (en : Nat) (st : RS) (h1 : st.a ≤ L.length) (h2 : st.deep ≤ 64) : Meth Try.prog 76 [.ref (.b 0) 0] (rsO L en st) (.bool (decide (st.deep ≠ 64))) (rsO L en (downR L en st)) := by
  refine Meth.of f76_ok fun rest => ?_
  unfold downR
  (conv => whnf)
  refine splitB_eq (fun h0 => ?_) (fun h0 => ?_)
  · have h3 : st.deep = 64 := by omega
    rw [if_pos h3, decide_eq_false (by simp [h3])]
    (conv => whnf)
    refine CallVC.same (fail_spec L hL en st 3) rfl rfl rfl ?_
    (conv => whnf)
    exact ⟨rfl, rfl⟩
  · have h3 : st.deep ≠ 64 := by omega
    rw [if_neg h3, decide_eq_true h3]
    (conv => whnf)
    rw [IntWalk.i64_in _ (by omega)]
    (conv => whnf)
    rw [IntWalk.i64_in _ (by omega)]
    exact ⟨rfl, rfl⟩

end Go.Proofs.Ytaanmljlbhkonaa.AD

namespace Go.Proofs.Ytaanmljlbhkonaa.AD
open Go.Proofs
set_option linter.unusedVariables false
set_option linter.unusedSimpArgs false
set_option maxRecDepth 100000

abbrev zeroE0 : Ex := .mk 0 ⟨#[]⟩ []
abbrev RR := Nat → RS → Option (Ex × RS)
section
variable (L : List Tok) (en : Nat) (rec : RR)
def advR (st : RS) : RS := ⟨st.a + 1, st.deep, st.wrong, st.place⟩
def upR' (st : RS) : RS := ⟨st.a, st.deep - 1, st.wrong, st.place⟩
def rowLoop (line : Nat) (signs : List ByteArray) (ops : List Int) : Nat → Ex → RS → Option (Ex × RS)
  | 0, _, _ => none
  | k + 1, e, st => match anyR L st signs 0 with
    | none => some (e, st)
    | some i => match rec (line + 1) (advR st) with
      | none => none
      | some (f, st') => rowLoop line signs ops k (.mk (ops.getD i 0) ⟨#[]⟩ [e, f]) st'
def rowR (line : Nat) (signs : List ByteArray) (ops : List Int) (st : RS) : Option (Ex × RS) := match rec (line + 1) st with
  | none => none
  | some (e, st') => rowLoop L rec line signs ops 9000 e st'
def prefixedR (line : Nat) (signs : List ByteArray) (ops : List Int) (st : RS) : Option (Ex × RS) := match anyR L st signs 0 with
  | none => rec (line + 1) st
  | some i => if st.deep = 64 then some (zeroE0, failR L en st 3) else match rec line (downR L en st) with
    | none => none
    | some (e, st') => some (.mk (ops.getD i 0) ⟨#[]⟩ [e], upR' st')
def rels : List ByteArray := [⟨#[61, 61]⟩, ⟨#[33, 61]⟩, ⟨#[60]⟩, ⟨#[62]⟩, ⟨#[60, 61]⟩, ⟨#[62, 61]⟩, ⟨#[126, 61]⟩]
def relR (st : RS) : Option (Ex × RS) := match rec 4 st with
  | none => none
  | some (e, st1) => match anyR L st1 rels 0 with
    | none => some (e, st1)
    | some i => match rec 4 (advR st1) with
      | none => none
      | some (f, st2) => some (.mk ([16, 17, 18, 19, 20, 21, 22].getD i 0) ⟨#[]⟩ [e, f], st2)
def powerR (st : RS) : Option (Ex × RS) := match rec 8 st with
  | none => none
  | some (e, st1) => if isR L st1 ⟨#[94]⟩ = true then (if st1.deep = 64 then some (e, failR L en st1 3) else match rec 6 (downR L en st1) with
      | none => none
      | some (f, st2) => some (.mk 15 ⟨#[]⟩ [e, f], upR' st2)) else some (e, st1)
def trueS : ByteArray := ⟨#[116, 114, 117, 101]⟩
def falseS : ByteArray := ⟨#[102, 97, 108, 115, 101]⟩
/-- A token that stands for itself. -/
def litR (t : Tok) : Option Ex :=
  if t.k = 4 then some (.mk 1 t.t []) else if t.k = 2 then some (.mk 5 t.t []) else if t.k = 3 then some (.mk 7 t.t [])
  else if t.k = 1 then some (if (t.t.data.toList == falseS.data.toList) = true then .mk 27 ⟨#[]⟩ [] else if (t.t.data.toList == trueS.data.toList) = true then .mk 26 ⟨#[]⟩ [] else .mk 2 t.t []) else none
def oneR (st : RS) : Option (Ex × RS) :=
  if isR L st ⟨#[40]⟩ = true then (if st.deep = 64 then some (zeroE0, failR L en st 3) else match rec 0 (downR L en st) with
    | none => none
    | some (e, st1) => some (e, upR' (mustR L en st1 ⟨#[41]⟩))) else match L[st.a]? with
  | none => some (zeroE0, failR L en st 150)
  | some t => match litR t with
    | none => some (zeroE0, failR L en st 150)
    | some e => some (e, advR st)
def stepR (n : Nat) (st : RS) : Option (Ex × RS) :=
  if st.wrong = 0 then (match n with
    | 0 => rowR L rec 0 [⟨#[124, 124]⟩] [24] st
    | 1 => rowR L rec 1 [⟨#[38, 38]⟩] [23] st
    | 2 => prefixedR L en rec 2 [⟨#[33]⟩] [25] st
    | 3 => relR L rec st
    | 4 => rowR L rec 4 [⟨#[43]⟩, ⟨#[45]⟩, ⟨#[46]⟩] [10, 11, 4] st
    | 5 => rowR L rec 5 [⟨#[42]⟩, ⟨#[47]⟩, ⟨#[37]⟩] [12, 13, 14] st
    | 6 => prefixedR L en rec 6 [⟨#[45]⟩] [9] st
    | 7 => powerR L en rec st
    | 8 => prefixedR L en rec 8 [⟨#[64]⟩, ⟨#[38]⟩, ⟨#[36]⟩] [6, 8, 3] st
    | _ => oneR L en rec st) else some (zeroE0, st)
end
def lineR (L : List Tok) (en : Nat) : Nat → RR
  | 0 => fun _ _ => none
  | k + 1 => stepR L en (lineR L en k)

def Good (L : List Tok) (st : RS) : Prop := st.a ≤ L.length ∧ st.deep ≤ 64
/-- What a reading does to the state. -/
def Okay (L : List Tok) (en : Nat) (rec : RR) : Prop := ∀ (n : Nat) (st : RS) (e : Ex) (st' : RS), n ≤ 9 → Good L st → rec n st = some (e, st') →
  (Good L st' ∧ st'.deep = st.deep) ∧ Meth Try.prog 52 [.ref (.b 0) 0, .p (.int .i64 n)] (rsO L en st) (enc e) (rsO L en st')

theorem failR_good {L : List Tok} {en : Nat} {st : RS} {e : Int} (h : Good L st) : Good L (failR L en st e) ∧ (failR L en st e).deep = st.deep := by
  unfold failR
  split
  · exact ⟨h, rfl⟩
  · exact ⟨h, rfl⟩
theorem isR_lt {L : List Tok} {st : RS} {sign : ByteArray} (hb : isR L st sign = true) : st.a < L.length := by
  rw [isR, Bool.and_eq_true] at hb
  cases hg : L[st.a]? with
  | none => rw [hg] at hb; simp at hb
  | some t => exact (List.getElem?_eq_some_iff.1 hg).1
theorem mustR_good {L : List Tok} {en : Nat} {st : RS} {s : ByteArray} (h : Good L st) : Good L (mustR L en st s) ∧ (mustR L en st s).deep = st.deep := by
  unfold mustR
  split
  · rename_i hb
    exact ⟨⟨isR_lt hb, h.2⟩, rfl⟩
  · exact failR_good h

section
variable {L : List Tok} {en : Nat} {rec : RR} (hL : L.length ≤ 8192) (ok : Okay L en rec)
include hL ok

theorem row_spec (line : Nat) (hl : line ≤ 8) (signs : List ByteArray) (hs : signs.length ≤ 100) (ops : List Int) (ho : ops.length = signs.length) (st : RS) (e : Ex) (st' : RS) (hg : Good L st) (h : rowR L rec line signs ops st = some (e, st')) :
    (Good L st' ∧ st'.deep = st.deep) ∧ Meth Try.prog 68 [.ref (.b 0) 0, .p (.int .i64 line), .p (.list 1 (signs.map .str)), .p (.list 1 (ops.map (.int .u8)))] (rsO L en st) (enc e) (rsO L en st') := by
  unfold rowR at h
  split at h
  · cases h
  rename_i e1 st1 h1
  obtain ⟨⟨g1, d1⟩, m1⟩ := ok (line + 1) st e1 st1 (by omega) hg h1
  have hloop : ∀ (k : Nat) (e1 : Ex) (st1 : RS), Good L st1 → st1.deep = st.deep → rowLoop L rec line signs ops k e1 st1 = some (e, st') → Good L st' ∧ st'.deep = st.deep := by
    intro k
    induction k with
    | zero => intro e1 st1 _ _ h; cases h
    | succ k ih =>
      intro e1 st1 g1 d1 h
      simp only [rowLoop] at h
      split at h
      · cases h; exact ⟨g1, d1⟩
      · rename_i i ha
        split at h
        · cases h
        · rename_i f st2 h2
          obtain ⟨⟨g2, d2⟩, _⟩ := ok (line + 1) (advR st1) f st2 (by omega) ⟨(anyR_lt _ _ _ _ _ ha).2.2, g1.2⟩ h2
          exact ih _ _ g2 (d2.trans d1) h
  refine ⟨hloop _ _ _ g1 d1 h, ?_⟩
  clear hloop
  refine Meth.ofLe f68_ok fun rest => ?_
  have hmo : (ops.map (PV.int .u8)).length = ops.length := List.length_map _
  (conv => whnf)
  rw [IntWalk.i64_in _ (by omega)]
  refine CallVC.same m1 rfl rfl rfl ?_
  obtain ⟨o1, t1, xs1⟩ := e1
  (conv => whnf)
  refine CallVC.same (any_spec L hL en st1 signs hs) rfl rfl rfl ?_
  generalize hA : anyR L st1 signs 0 = A
  (conv => whnf)
  intro R hR
  have key : ∀ (k : Nat) (o1 : Int) (t1 : ByteArray) (xs1 : List Ex) (st1 : RS) (A : Option Nat), Good L st1 → anyR L st1 signs 0 = A → rowLoop L rec line signs ops k (.mk o1 t1 xs1) st1 = some (e, st') →
      R [(0, .ref (.b 0) 0), (1, .p (.int .i64 line)), (2, .p (.list 1 (signs.map .str))), (3, .p (.list 1 (ops.map (.int .u8)))), (8, .ref (.l 0) 0), (9, .ref (.l 1) 0), (10, .p (anyP A))] (rsO L en st1 ++ rest)
        [.cells [.p (.int .u8 0), .p (.str ⟨#[]⟩), .p .nils], .cells [.p (.int .u8 o1), .p (.str t1), .p (.list 3 (encs xs1))]] := by
    intro k
    induction k with
    | zero => intro o1 t1 xs1 st1 A _ _ h; cases h
    | succ k ih =>
      intro o1 t1 xs1 st1 A g1 hA h
      simp only [rowLoop] at h
      rw [hA] at h
      refine hR _ _ _ ?_
      cases A with
      | none =>
        simp only at h
        cases h
        (conv => whnf)
        refine splitB_f rfl ?_
        (conv => whnf)
        exact ⟨⟨_, rfl, .refl _⟩, rfl⟩
      | some i =>
        simp only at h
        obtain ⟨⟨_, hi2⟩, hw, ha⟩ := anyR_lt _ _ _ _ _ hA
        split at h
        · cases h
        · rename_i f st2 h2
          obtain ⟨⟨g2, d2⟩, m2⟩ := ok (line + 1) (advR st1) f st2 (by omega) ⟨ha, g1.2⟩ h2
          obtain ⟨o2, t2, xs2⟩ := f
          (conv => whnf)
          refine splitB_t (decide_eq_true (by omega)) ?_
          (conv => whnf)
          rw [IntWalk.i64_in _ (by omega)]
          (conv => whnf)
          rw [IntWalk.i64_in _ (by omega)]
          refine CallVC.same m2 rfl rfl rfl ?_
          (conv => whnf)
          have hop : ops[i]? = some (ops.getD i 0) := by
            rw [List.getD_eq_getElem?_getD, List.getElem?_eq_getElem (by omega)]; rfl
          refine ⟨rfl, .int .u8 (ops.getD i 0), ⟨by omega, by rw [Int.toNat_natCast, List.getElem?_map, hop]; rfl⟩, ?_⟩
          (conv => whnf)
          refine CallVC.same (any_spec L hL en st2 signs hs) rfl rfl rfl ?_
          generalize hA2 : anyR L st2 signs 0 = A2
          (conv => whnf)
          exact ih (ops.getD i 0) ⟨#[]⟩ [.mk o1 t1 xs1, .mk o2 t2 xs2] st2 A2 g2 hA2 h
  exact key 9000 o1 t1 xs1 st1 A g1 hA h
end

end Go.Proofs.Ytaanmljlbhkonaa.AD

namespace Go.Proofs.Ytaanmljlbhkonaa.AD
open Go.Proofs
set_option linter.unusedVariables false
set_option linter.unusedSimpArgs false
set_option maxRecDepth 100000

theorem downR_good {L : List Tok} {en : Nat} {st : RS} (h : Good L st) (ha : st.a < L.length) (hd : st.deep ≠ 64) : downR L en st = ⟨st.a + 1, st.deep + 1, st.wrong, st.place⟩ ∧ Good L (downR L en st) := by
  unfold downR
  rw [if_neg hd]
  exact ⟨rfl, ha, by have := h.2; simp only; omega⟩

section
variable {L : List Tok} {en : Nat} {rec : RR} (hL : L.length ≤ 8192) (ok : Okay L en rec)
include hL ok

theorem prefixed_spec (line : Nat) (hl : line ≤ 8) (signs : List ByteArray) (hs : signs.length ≤ 100) (ops : List Int) (ho : ops.length = signs.length) (st : RS) (e : Ex) (st' : RS) (hg : Good L st) (h : prefixedR L en rec line signs ops st = some (e, st')) :
    (Good L st' ∧ st'.deep = st.deep) ∧ Meth Try.prog 69 [.ref (.b 0) 0, .p (.int .i64 line), .p (.list 1 (signs.map .str)), .p (.list 1 (ops.map (.int .u8)))] (rsO L en st) (enc e) (rsO L en st') := by
  unfold prefixedR at h
  have hany := any_spec L hL en st signs hs
  have hmo : (ops.map (PV.int .u8)).length = ops.length := List.length_map _
  cases hA : anyR L st signs 0 with
  | none =>
    rw [hA] at h hany
    simp only at h
    obtain ⟨h1, m1⟩ := ok (line + 1) st e st' (by omega) hg h
    refine ⟨h1, Meth.ofLe f69_ok fun rest => ?_⟩
    obtain ⟨o1, t1, xs1⟩ := e
    (conv => whnf)
    refine CallVC.same hany rfl rfl rfl ?_
    (conv => whnf)
    refine splitB_t rfl ?_
    (conv => whnf)
    rw [IntWalk.i64_in _ (by omega)]
    refine CallVC.same m1 rfl rfl rfl ?_
    (conv => whnf)
    exact ⟨⟨_, rfl, .refl _⟩, rfl⟩
  | some i =>
    rw [hA] at h hany
    simp only at h
    obtain ⟨⟨_, hi2⟩, hw, ha⟩ := anyR_lt _ _ _ _ _ hA
    have hdn := down_spec L hL en st hg.1 hg.2
    split at h
    · rename_i hd
      cases h
      refine ⟨failR_good hg, Meth.ofLe f69_ok fun rest => ?_⟩
      have e1 : downR L en st = failR L en st 3 := by unfold downR; rw [if_pos hd]
      rw [e1, decide_eq_false (by simp [hd])] at hdn
      (conv => whnf)
      refine CallVC.same hany rfl rfl rfl ?_
      (conv => whnf)
      refine splitB_f (decide_eq_false (by omega)) ?_
      (conv => whnf)
      refine CallVC.same hdn rfl rfl rfl ?_
      (conv => whnf)
      refine splitB_t rfl ?_
      (conv => whnf)
      exact ⟨⟨_, rfl, leaf_le _ _⟩, rfl⟩
    · rename_i hd
      rw [decide_eq_true hd] at hdn
      obtain ⟨e1, g1⟩ := downR_good hg ha hd
      split at h
      · cases h
      · rename_i f st1 h1
        cases h
        obtain ⟨⟨g2, d2⟩, m1⟩ := ok line (downR L en st) f st1 (by omega) g1 h1
        have d3 : st1.deep = st.deep + 1 := by rw [d2, e1]
        refine ⟨⟨⟨g2.1, by have := g2.2; simp only [upR']; omega⟩, by simp only [upR']; omega⟩, Meth.ofLe f69_ok fun rest => ?_⟩
        obtain ⟨o1, t1, xs1⟩ := f
        have h64 := hg.2
        (conv => whnf)
        refine CallVC.same hany rfl rfl rfl ?_
        (conv => whnf)
        refine splitB_f (decide_eq_false (by omega)) ?_
        (conv => whnf)
        refine CallVC.same hdn rfl rfl rfl ?_
        (conv => whnf)
        refine splitB_f rfl ?_
        (conv => whnf)
        refine CallVC.same m1 rfl rfl rfl ?_
        (conv => whnf)
        rw [IntWalk.i64_in _ (by omega)]
        have hop : ops[i]? = some (ops.getD i 0) := by
          rw [List.getD_eq_getElem?_getD, List.getElem?_eq_getElem (by omega)]; rfl
        refine ⟨rfl, .int .u8 (ops.getD i 0), ⟨by omega, by rw [Int.toNat_natCast, List.getElem?_map, hop]; rfl⟩, ?_⟩
        (conv => whnf)
        have d4 : ((st1.deep : Int) - 1) = ((upR' st1).deep : Nat) := by simp only [upR']; omega
        rw [d4]
        exact ⟨⟨_, rfl, .refl _⟩, rfl⟩

theorem rel_spec (st : RS) (e : Ex) (st' : RS) (hg : Good L st) (h : relR L rec st = some (e, st')) :
    (Good L st' ∧ st'.deep = st.deep) ∧ Meth Try.prog 70 [.ref (.b 0) 0] (rsO L en st) (enc e) (rsO L en st') := by
  unfold relR at h
  split at h
  · cases h
  rename_i e1 st1 h1
  obtain ⟨⟨g1, d1⟩, m1⟩ := ok 4 st e1 st1 (by omega) hg h1
  have hany := any_spec L hL en st1 rels (by decide)
  obtain ⟨o1, t1, xs1⟩ := e1
  cases hA : anyR L st1 rels 0 with
  | none =>
    rw [hA] at h hany
    simp only at h
    cases h
    refine ⟨⟨g1, d1⟩, Meth.ofLe f70_ok fun rest => ?_⟩
    (conv => whnf)
    refine CallVC.same m1 rfl rfl rfl ?_
    (conv => whnf)
    refine CallVC.same hany rfl rfl rfl ?_
    (conv => whnf)
    refine splitB_t rfl ?_
    (conv => whnf)
    exact ⟨⟨_, rfl, .refl _⟩, rfl⟩
  | some i =>
    rw [hA] at h hany
    simp only at h
    obtain ⟨⟨_, hi2⟩, hw, ha⟩ := anyR_lt _ _ _ _ _ hA
    have hi3 : i < 7 := by have : rels.length = 7 := rfl; omega
    split at h
    · cases h
    · rename_i f st2 h2
      cases h
      obtain ⟨⟨g2, d2⟩, m2⟩ := ok 4 (advR st1) f st' (by omega) ⟨ha, g1.2⟩ h2
      refine ⟨⟨g2, d2.trans d1⟩, Meth.ofLe f70_ok fun rest => ?_⟩
      obtain ⟨o2, t2, xs2⟩ := f
      (conv => whnf)
      refine CallVC.same m1 rfl rfl rfl ?_
      (conv => whnf)
      refine CallVC.same hany rfl rfl rfl ?_
      (conv => whnf)
      refine splitB_f (decide_eq_false (by omega)) ?_
      (conv => whnf)
      rw [IntWalk.i64_in _ (by omega)]
      refine CallVC.same m2 rfl rfl rfl ?_
      (conv => whnf)
      have hop : ([16, 17, 18, 19, 20, 21, 22] : List Int)[i]? = some (([16, 17, 18, 19, 20, 21, 22] : List Int).getD i 0) := by
        rw [List.getD_eq_getElem?_getD, List.getElem?_eq_getElem (by simpa using hi3)]; rfl
      refine ⟨rfl, .int .u8 (([16, 17, 18, 19, 20, 21, 22] : List Int).getD i 0), ⟨by omega, by
        rw [Int.toNat_natCast, show ([PV.int .u8 16, PV.int .u8 17, PV.int .u8 18, PV.int .u8 19, PV.int .u8 20, PV.int .u8 21, PV.int .u8 22] : List PV) = ([16, 17, 18, 19, 20, 21, 22] : List Int).map (PV.int .u8) from rfl, List.getElem?_map, hop]; rfl⟩, ?_⟩
      (conv => whnf)
      exact ⟨⟨_, rfl, .refl _⟩, rfl⟩

theorem power_spec (st : RS) (e : Ex) (st' : RS) (hg : Good L st) (h : powerR L en rec st = some (e, st')) :
    (Good L st' ∧ st'.deep = st.deep) ∧ Meth Try.prog 71 [.ref (.b 0) 0] (rsO L en st) (enc e) (rsO L en st') := by
  unfold powerR at h
  split at h
  · cases h
  rename_i e1 st1 h1
  obtain ⟨⟨g1, d1⟩, m1⟩ := ok 8 st e1 st1 (by omega) hg h1
  have his := is_spec L hL en st1 ⟨#[94]⟩
  have hdn := down_spec L hL en st1 g1.1 g1.2
  obtain ⟨o1, t1, xs1⟩ := e1
  cases hA : isR L st1 ⟨#[94]⟩ with
  | false =>
    rw [hA] at h his
    rw [if_neg (by simp)] at h
    cases h
    refine ⟨⟨g1, d1⟩, Meth.ofLe f71_ok fun rest => ?_⟩
    (conv => whnf)
    refine CallVC.same m1 rfl rfl rfl ?_
    (conv => whnf)
    refine CallVC.same his rfl rfl rfl ?_
    repeat' ((conv => whnf); first | refine splitB_t rfl ?_ | refine splitB_f rfl ?_ | done)
    (conv => whnf)
    exact ⟨⟨_, rfl, .refl _⟩, rfl⟩
  | true =>
    rw [hA] at h his
    rw [if_pos rfl] at h
    have ha := isR_lt hA
    split at h
    · rename_i hd
      cases h
      refine ⟨⟨(failR_good g1).1, (failR_good g1).2.trans d1⟩, Meth.ofLe f71_ok fun rest => ?_⟩
      have e1 : downR L en st1 = failR L en st1 3 := by unfold downR; rw [if_pos hd]
      rw [e1, decide_eq_false (by simp [hd])] at hdn
      (conv => whnf)
      refine CallVC.same m1 rfl rfl rfl ?_
      (conv => whnf)
      refine CallVC.same his rfl rfl rfl ?_
      repeat' ((conv => whnf); first | refine splitB_t rfl ?_ | refine splitB_f rfl ?_ | done)
      (conv => whnf)
      refine CallVC.same hdn rfl rfl rfl ?_
      repeat' ((conv => whnf); first | refine splitB_t rfl ?_ | refine splitB_f rfl ?_ | done)
      (conv => whnf)
      exact ⟨⟨_, rfl, .refl _⟩, rfl⟩
    · rename_i hd
      rw [decide_eq_true hd] at hdn
      obtain ⟨e1, g2⟩ := downR_good g1 ha hd
      split at h
      · cases h
      · rename_i f st2 h2
        cases h
        obtain ⟨⟨g3, d3⟩, m2⟩ := ok 6 (downR L en st1) f st2 (by omega) g2 h2
        have d4 : st2.deep = st1.deep + 1 := by rw [d3, e1]
        refine ⟨⟨⟨g3.1, by have := g3.2; simp only [upR']; omega⟩, by simp only [upR']; omega⟩, Meth.ofLe f71_ok fun rest => ?_⟩
        obtain ⟨o2, t2, xs2⟩ := f
        have h64 := g1.2
        (conv => whnf)
        refine CallVC.same m1 rfl rfl rfl ?_
        (conv => whnf)
        refine CallVC.same his rfl rfl rfl ?_
        repeat' ((conv => whnf); first | refine splitB_t rfl ?_ | refine splitB_f rfl ?_ | done)
        (conv => whnf)
        refine CallVC.same hdn rfl rfl rfl ?_
        repeat' ((conv => whnf); first | refine splitB_t rfl ?_ | refine splitB_f rfl ?_ | done)
        (conv => whnf)
        refine CallVC.same m2 rfl rfl rfl ?_
        (conv => whnf)
        rw [IntWalk.i64_in _ (by omega)]
        have d5 : ((st2.deep : Int) - 1) = ((upR' st2).deep : Nat) := by simp only [upR']; omega
        rw [d5]
        exact ⟨⟨_, rfl, .refl _⟩, rfl⟩
end

end Go.Proofs.Ytaanmljlbhkonaa.AD

namespace Go.Proofs.Ytaanmljlbhkonaa.AD
open Go.Proofs
set_option linter.unusedVariables false
set_option linter.unusedSimpArgs false
set_option maxRecDepth 100000

theorem isR_none {L : List Tok} {st : RS} {sign : ByteArray} (hw : st.wrong = 0) {t : Tok} (hg : L[st.a]? = some t) : isR L st sign = (decide (t.k = 6) && (t.t.data.toList == sign.data.toList)) := by
  rw [isR, decide_eq_true hw, hg]; rfl

section
variable {L : List Tok} {en : Nat} {rec : RR} (hL : L.length ≤ 8192) (ok : Okay L en rec)
include hL ok

theorem one_spec' (st : RS) (e : Ex) (st' : RS) (hg : Good L st) (h : oneR L en rec st = some (e, st')) :
    (Good L st' ∧ st'.deep = st.deep) ∧ Meth Try.prog 72 [.ref (.b 0) 0] (rsO L en st) (enc e) (rsO L en st') := by
  unfold oneR at h
  have his := is_spec L hL en st ⟨#[40]⟩
  have hdn := down_spec L hL en st hg.1 hg.2
  have hml : (L.map tkP).length = L.length := List.length_map _
  cases hA : isR L st ⟨#[40]⟩ with
  | true =>
    rw [hA] at h his
    rw [if_pos rfl] at h
    have ha := isR_lt hA
    split at h
    · rename_i hd
      cases h
      refine ⟨failR_good hg, Meth.ofLe f72_ok fun rest => ?_⟩
      have e1 : downR L en st = failR L en st 3 := by unfold downR; rw [if_pos hd]
      rw [e1, decide_eq_false (by simp [hd])] at hdn
      (conv => whnf)
      refine CallVC.same his rfl rfl rfl ?_
      repeat' ((conv => whnf); first | refine splitB_t rfl ?_ | refine splitB_f rfl ?_ | done)
      (conv => whnf)
      refine CallVC.same hdn rfl rfl rfl ?_
      repeat' ((conv => whnf); first | refine splitB_t rfl ?_ | refine splitB_f rfl ?_ | done)
      (conv => whnf)
      exact ⟨⟨_, rfl, leaf_le _ _⟩, rfl⟩
    · rename_i hd
      rw [decide_eq_true hd] at hdn
      obtain ⟨e1, g2⟩ := downR_good hg ha hd
      split at h
      · cases h
      · rename_i f st1 h1
        cases h
        obtain ⟨⟨g3, d3⟩, m2⟩ := ok 0 (downR L en st) e st1 (by omega) g2 h1
        have d4 : st1.deep = st.deep + 1 := by rw [d3, e1]
        obtain ⟨g4, d5⟩ := mustR_good (en := en) (s := ⟨#[41]⟩) g3
        have hmu := must_spec L hL en st1 ⟨#[41]⟩
        refine ⟨⟨⟨g4.1, by have := g4.2; simp only [upR']; omega⟩, by simp only [upR']; omega⟩, Meth.ofLe f72_ok fun rest => ?_⟩
        obtain ⟨o2, t2, xs2⟩ := e
        have h64 := hg.2
        generalize mustR L en st1 ⟨#[41]⟩ = st2 at g4 d5 hmu
        (conv => whnf)
        refine CallVC.same his rfl rfl rfl ?_
        repeat' ((conv => whnf); first | refine splitB_t rfl ?_ | refine splitB_f rfl ?_ | done)
        (conv => whnf)
        refine CallVC.same hdn rfl rfl rfl ?_
        repeat' ((conv => whnf); first | refine splitB_t rfl ?_ | refine splitB_f rfl ?_ | done)
        (conv => whnf)
        refine CallVC.same m2 rfl rfl rfl ?_
        (conv => whnf)
        refine CallVC.same hmu rfl rfl rfl ?_
        (conv => whnf)
        rw [IntWalk.i64_in _ (by omega)]
        have d5 : ((st2.deep : Int) - 1) = ((upR' st2).deep : Nat) := by simp only [upR']; omega
        rw [d5]
        exact ⟨⟨_, rfl, .refl _⟩, rfl⟩
  | false =>
    rw [hA] at h his
    rw [if_neg (by simp)] at h
    have hfl := fail_spec L hL en st 150
    cases hG : L[st.a]? with
    | none =>
      rw [hG] at h
      simp only at h
      cases h
      have hge := List.getElem?_eq_none_iff.1 hG
      refine ⟨failR_good hg, Meth.ofLe f72_ok fun rest => ?_⟩
      (conv => whnf)
      refine CallVC.same his rfl rfl rfl ?_
      (conv => whnf)
      refine splitB_f rfl ?_
      (conv => whnf)
      refine splitB_t (decide_eq_true (by omega)) ?_
      (conv => whnf)
      refine CallVC.same hfl rfl rfl rfl ?_
      (conv => whnf)
      exact ⟨⟨_, rfl, leaf_le _ _⟩, rfl⟩
    | some t =>
      rw [hG] at h
      simp only at h
      have hlt := (List.getElem?_eq_some_iff.1 hG).1
      have bnd : st.a ≤ 8192 := by have := hg.1; omega
      cases hlit : litR t with
      | none =>
        rw [hlit] at h
        cases h
        refine ⟨failR_good hg, Meth.ofLe f72_ok fun rest => ?_⟩
        unfold litR at hlit
        (conv => whnf)
        refine CallVC.same his rfl rfl rfl ?_
        (conv => whnf)
        refine splitB_f rfl ?_
        (conv => whnf)
        refine splitB_f (decide_eq_false (by omega)) ?_
        (conv => whnf)
        refine ⟨rfl, tkP t, ⟨by omega, by rw [Int.toNat_natCast, List.getElem?_map, hG]; rfl⟩, ?_⟩
        (conv => whnf)
        refine splitB_eq (fun k4 => ?_) (fun k4 => ?_)
        · rw [if_pos k4] at hlit; cases hlit
        rw [if_neg k4] at hlit
        (conv => whnf)
        refine splitB_eq (fun k2 => ?_) (fun k2 => ?_)
        · rw [if_pos k2] at hlit; cases hlit
        rw [if_neg k2] at hlit
        (conv => whnf)
        refine splitB_eq (fun k3 => ?_) (fun k3 => ?_)
        · rw [if_pos k3] at hlit; cases hlit
        rw [if_neg k3] at hlit
        (conv => whnf)
        refine splitB_eq (fun k1 => ?_) (fun k1 => ?_)
        · rw [if_pos k1] at hlit; cases hlit
        (conv => whnf)
        refine CallVC.same hfl rfl rfl rfl ?_
        (conv => whnf)
        exact ⟨⟨_, rfl, leaf_le _ _⟩, rfl⟩
      | some e0 =>
        rw [hlit] at h
        cases h
        refine ⟨⟨⟨hlt, hg.2⟩, rfl⟩, Meth.ofLe f72_ok fun rest => ?_⟩
        unfold litR at hlit
        (conv => whnf)
        refine CallVC.same his rfl rfl rfl ?_
        (conv => whnf)
        refine splitB_f rfl ?_
        (conv => whnf)
        refine splitB_f (decide_eq_false (by omega)) ?_
        (conv => whnf)
        refine ⟨rfl, tkP t, ⟨by omega, by rw [Int.toNat_natCast, List.getElem?_map, hG]; rfl⟩, ?_⟩
        (conv => whnf)
        refine splitB_eq (fun k4 => ?_) (fun k4 => ?_)
        · rw [if_pos k4] at hlit
          cases hlit
          (conv => whnf)
          rw [IntWalk.i64_in _ (by omega)]
          exact ⟨⟨_, rfl, leaf_le _ _⟩, rfl⟩
        rw [if_neg k4] at hlit
        (conv => whnf)
        refine splitB_eq (fun k2 => ?_) (fun k2 => ?_)
        · rw [if_pos k2] at hlit
          cases hlit
          (conv => whnf)
          rw [IntWalk.i64_in _ (by omega)]
          exact ⟨⟨_, rfl, leaf_le _ _⟩, rfl⟩
        rw [if_neg k2] at hlit
        (conv => whnf)
        refine splitB_eq (fun k3 => ?_) (fun k3 => ?_)
        · rw [if_pos k3] at hlit
          cases hlit
          (conv => whnf)
          rw [IntWalk.i64_in _ (by omega)]
          exact ⟨⟨_, rfl, leaf_le _ _⟩, rfl⟩
        rw [if_neg k3] at hlit
        (conv => whnf)
        refine splitB_eq (fun k1 => ?_) (fun k1 => ?_)
        · rw [if_pos k1] at hlit
          have hlit := Option.some.inj hlit
          have c1 : ∀ s : ByteArray, (t.t.toList == s.toList) = (t.t.data.toList == s.data.toList) := fun s => by rw [ba_toList, ba_toList]
          (conv => whnf)
          refine splitB_intro (fun b1 => ?_) (fun b1 => ?_)
          · have b1' : (t.t.data.toList == trueS.data.toList) = true := by rw [← c1]; exact b1
            have b2' : (t.t.data.toList == falseS.data.toList) = false := by
              rw [beq_iff_eq] at b1'
              rw [b1']; rfl
            rw [if_neg (by rw [b2']; simp), if_pos b1'] at hlit
            subst hlit
            (conv => whnf)
            refine splitB_f (by rw [← b2', ← c1]; rfl) ?_
            (conv => whnf)
            rw [IntWalk.i64_in _ (by omega)]
            exact ⟨⟨_, rfl, leaf_le _ _⟩, rfl⟩
          · have b1' : (t.t.data.toList == trueS.data.toList) = false := by rw [← c1]; exact b1
            (conv => whnf)
            refine splitB_intro (fun b2 => ?_) (fun b2 => ?_)
            · have b2' : (t.t.data.toList == falseS.data.toList) = true := by rw [← c1]; exact b2
              rw [if_pos b2'] at hlit
              subst hlit
              (conv => whnf)
              rw [IntWalk.i64_in _ (by omega)]
              exact ⟨⟨_, rfl, leaf_le _ _⟩, rfl⟩
            · have b2' : (t.t.data.toList == falseS.data.toList) = false := by rw [← c1]; exact b2
              rw [if_neg (by rw [b2']; simp), if_neg (by rw [b1']; simp)] at hlit
              subst hlit
              (conv => whnf)
              rw [IntWalk.i64_in _ (by omega)]
              exact ⟨⟨_, rfl, leaf_le _ _⟩, rfl⟩
        · rw [if_neg k1] at hlit; cases hlit
end

end Go.Proofs.Ytaanmljlbhkonaa.AD

namespace Go.Proofs.Ytaanmljlbhkonaa.AD
open Go.Proofs
set_option linter.unusedVariables false
set_option linter.unusedSimpArgs false
set_option maxRecDepth 100000

set_option maxHeartbeats 1000000 in
theorem step_okay {L : List Tok} {en : Nat} {rec : RR} (hL : L.length ≤ 8192) (ok : Okay L en rec) : Okay L en (stepR L en rec) := by
  intro n st e st' hn hg h
  unfold stepR at h
  split at h
  rotate_left
  · rename_i hw
    cases h
    refine ⟨⟨hg, rfl⟩, Meth.ofLe f52_ok fun rest => ?_⟩
    (conv => whnf)
    refine splitB_t (bne_iff_ne.2 hw) ?_
    (conv => whnf)
    exact ⟨⟨_, rfl, leaf_le _ _⟩, rfl⟩
  rename_i hw
  match n, h with
    | 0, h =>
      obtain ⟨h1, m1⟩ := row_spec hL ok 0 (by omega) [⟨#[124, 124]⟩] (by decide) [24] rfl st e st' hg h
      refine ⟨h1, Meth.ofLe f52_ok fun rest => ?_⟩
      obtain ⟨o, t, xs⟩ := e
      repeat' ((conv => whnf); first | refine splitB_f (bne_eq_false_iff_eq.2 hw) ?_ | refine splitB_t rfl ?_ | refine splitB_f rfl ?_ | done)
      refine CallVC.same m1 rfl rfl rfl ?_
      (conv => whnf)
      exact ⟨⟨_, rfl, .refl _⟩, rfl⟩
    | 1, h =>
      obtain ⟨h1, m1⟩ := row_spec hL ok 1 (by omega) [⟨#[38, 38]⟩] (by decide) [23] rfl st e st' hg h
      refine ⟨h1, Meth.ofLe f52_ok fun rest => ?_⟩
      obtain ⟨o, t, xs⟩ := e
      repeat' ((conv => whnf); first | refine splitB_f (bne_eq_false_iff_eq.2 hw) ?_ | refine splitB_t rfl ?_ | refine splitB_f rfl ?_ | done)
      refine CallVC.same m1 rfl rfl rfl ?_
      (conv => whnf)
      exact ⟨⟨_, rfl, .refl _⟩, rfl⟩
    | 2, h =>
      obtain ⟨h1, m1⟩ := prefixed_spec hL ok 2 (by omega) [⟨#[33]⟩] (by decide) [25] rfl st e st' hg h
      refine ⟨h1, Meth.ofLe f52_ok fun rest => ?_⟩
      obtain ⟨o, t, xs⟩ := e
      repeat' ((conv => whnf); first | refine splitB_f (bne_eq_false_iff_eq.2 hw) ?_ | refine splitB_t rfl ?_ | refine splitB_f rfl ?_ | done)
      refine CallVC.same m1 rfl rfl rfl ?_
      (conv => whnf)
      exact ⟨⟨_, rfl, .refl _⟩, rfl⟩
    | 3, h =>
      obtain ⟨h1, m1⟩ := rel_spec hL ok st e st' hg h
      refine ⟨h1, Meth.ofLe f52_ok fun rest => ?_⟩
      obtain ⟨o, t, xs⟩ := e
      repeat' ((conv => whnf); first | refine splitB_f (bne_eq_false_iff_eq.2 hw) ?_ | refine splitB_t rfl ?_ | refine splitB_f rfl ?_ | done)
      refine CallVC.same m1 rfl rfl rfl ?_
      (conv => whnf)
      exact ⟨⟨_, rfl, .refl _⟩, rfl⟩
    | 4, h =>
      obtain ⟨h1, m1⟩ := row_spec hL ok 4 (by omega) [⟨#[43]⟩, ⟨#[45]⟩, ⟨#[46]⟩] (by decide) [10, 11, 4] rfl st e st' hg h
      refine ⟨h1, Meth.ofLe f52_ok fun rest => ?_⟩
      obtain ⟨o, t, xs⟩ := e
      repeat' ((conv => whnf); first | refine splitB_f (bne_eq_false_iff_eq.2 hw) ?_ | refine splitB_t rfl ?_ | refine splitB_f rfl ?_ | done)
      refine CallVC.same m1 rfl rfl rfl ?_
      (conv => whnf)
      exact ⟨⟨_, rfl, .refl _⟩, rfl⟩
    | 5, h =>
      obtain ⟨h1, m1⟩ := row_spec hL ok 5 (by omega) [⟨#[42]⟩, ⟨#[47]⟩, ⟨#[37]⟩] (by decide) [12, 13, 14] rfl st e st' hg h
      refine ⟨h1, Meth.ofLe f52_ok fun rest => ?_⟩
      obtain ⟨o, t, xs⟩ := e
      repeat' ((conv => whnf); first | refine splitB_f (bne_eq_false_iff_eq.2 hw) ?_ | refine splitB_t rfl ?_ | refine splitB_f rfl ?_ | done)
      refine CallVC.same m1 rfl rfl rfl ?_
      (conv => whnf)
      exact ⟨⟨_, rfl, .refl _⟩, rfl⟩
    | 6, h =>
      obtain ⟨h1, m1⟩ := prefixed_spec hL ok 6 (by omega) [⟨#[45]⟩] (by decide) [9] rfl st e st' hg h
      refine ⟨h1, Meth.ofLe f52_ok fun rest => ?_⟩
      obtain ⟨o, t, xs⟩ := e
      repeat' ((conv => whnf); first | refine splitB_f (bne_eq_false_iff_eq.2 hw) ?_ | refine splitB_t rfl ?_ | refine splitB_f rfl ?_ | done)
      refine CallVC.same m1 rfl rfl rfl ?_
      (conv => whnf)
      exact ⟨⟨_, rfl, .refl _⟩, rfl⟩
    | 7, h =>
      obtain ⟨h1, m1⟩ := power_spec hL ok st e st' hg h
      refine ⟨h1, Meth.ofLe f52_ok fun rest => ?_⟩
      obtain ⟨o, t, xs⟩ := e
      repeat' ((conv => whnf); first | refine splitB_f (bne_eq_false_iff_eq.2 hw) ?_ | refine splitB_t rfl ?_ | refine splitB_f rfl ?_ | done)
      refine CallVC.same m1 rfl rfl rfl ?_
      (conv => whnf)
      exact ⟨⟨_, rfl, .refl _⟩, rfl⟩
    | 8, h =>
      obtain ⟨h1, m1⟩ := prefixed_spec hL ok 8 (by omega) [⟨#[64]⟩, ⟨#[38]⟩, ⟨#[36]⟩] (by decide) [6, 8, 3] rfl st e st' hg h
      refine ⟨h1, Meth.ofLe f52_ok fun rest => ?_⟩
      obtain ⟨o, t, xs⟩ := e
      repeat' ((conv => whnf); first | refine splitB_f (bne_eq_false_iff_eq.2 hw) ?_ | refine splitB_t rfl ?_ | refine splitB_f rfl ?_ | done)
      refine CallVC.same m1 rfl rfl rfl ?_
      (conv => whnf)
      exact ⟨⟨_, rfl, .refl _⟩, rfl⟩
    | 9, h =>
      obtain ⟨h1, m1⟩ := one_spec' hL ok st e st' hg h
      refine ⟨h1, Meth.ofLe f52_ok fun rest => ?_⟩
      obtain ⟨o, t, xs⟩ := e
      repeat' ((conv => whnf); first | refine splitB_f (bne_eq_false_iff_eq.2 hw) ?_ | refine splitB_t rfl ?_ | refine splitB_f rfl ?_ | done)
      refine CallVC.same m1 rfl rfl rfl ?_
      (conv => whnf)
      exact ⟨⟨_, rfl, .refl _⟩, rfl⟩
    | n + 10, h => exact absurd hn (by omega)

theorem line_okay {L : List Tok} (en : Nat) (hL : L.length ≤ 8192) : ∀ k, Okay L en (lineR L en k)
  | 0 => fun n st e st' _ _ h => by cases h
  | k + 1 => step_okay hL (line_okay en hL k)

/-- An expression, alone. -/
def exprR (s : ByteArray) (k : Nat) : Option (Ex × Int × Int) := match tokensR s with
  | .err p e => some (zeroE0, p, e)
  | .ok L => match lineR L s.size k 0 ⟨0, 0, 0, 0⟩ with
    | none => none
    | some (e, st) => let st2 := if st.a < L.length then failR L s.size st 150 else st
      if st2.wrong = 0 then some (e, 0, 0) else some (zeroE0, st2.place, st2.wrong)

end Go.Proofs.Ytaanmljlbhkonaa.AD

namespace Go.Proofs.Ytaanmljlbhkonaa.AD
open Go.Proofs
set_option linter.unusedVariables false
set_option linter.unusedSimpArgs false
set_option maxRecDepth 100000

theorem tokens_le {s : ByteArray} {L : List Tok} (h : tokensR s = .ok L) : L.length ≤ 8192 := tokensR_len h
theorem pureF.ofLe {P : Program} {own : List Nat} {f : Nat} {ir : IF} {args : List AV} {r : PV} (hc : compF P own f = some ir.bare) (h : ∀ H, fnV P ir args H fun r' H' => (∃ p, r' = .p p ∧ p.le r) ∧ H' = H) : pureF P f args (.p r) := fun H μ w xs hi hx => by
  refine Calls.mono' (sound hc (h H) μ w xs hi hx) ?_
  rintro e w' ⟨v, r1, H', μ', h1, ⟨⟨p, rfl, hl⟩, rfl⟩, h3, h4, h5⟩
  exact ⟨v, .p r, _, μ', h1, ⟨rfl, rfl⟩, h3, (by cases h4 with | p _ _ h => exact .p _ _ (hl _ _ _ h)), h5⟩

theorem tup_le {a b : PV} (h : a.le b) (p w : Int) : PV.le (.tup [a, .int .i64 p, .int .i64 w]) (.tup [b, .int .i64 p, .int .i64 w]) :=
  .tup (.cons _ _ _ _ h (.cons _ _ _ _ (.refl _) (.cons _ _ _ _ (.refl _) .nil)))

theorem Expr_spec' (s : ByteArray) (hsz : (s.size : Int) ≤ 9223372036854775807) (k : Nat) (e : Ex) (p w : Int) (h : exprR s k = some (e, p, w)) : pureF Try.prog 31 [.p (.str s)] (.p (.tup [enc e, .int .i64 p, .int .i64 w])) := by
  refine pureF.ofLe f31_ok fun H => ?_
  have hT := rTokens_spec s hsz
  unfold exprR at h
  cases hR : tokensR s with
  | err q er =>
    rw [hR] at h hT
    cases h
    have he := (tokensR_err hR).1
    (conv => whnf)
    refine CallVC.pureF hT rfl ?_
    (conv => whnf)
    refine splitB_t (by rcases he with rfl | rfl | rfl | rfl <;> rfl) ?_
    (conv => whnf)
    exact ⟨⟨_, rfl, tup_le (leaf_le _ _) _ _⟩, rfl⟩
  | ok L =>
    rw [hR] at h hT
    simp only at h
    have hL := tokens_le hR
    have hml : (L.map tkP).length = L.length := List.length_map _
    split at h
    · cases h
    rename_i e1 st h1
    obtain ⟨⟨g1, d1⟩, m1⟩ := line_okay s.size hL k 0 _ e1 st (by omega) ⟨by simp, by simp⟩ h1
    have hfl := fail_spec L hL s.size st 150
    obtain ⟨o1, t1, xs1⟩ := e1
    (conv => whnf)
    refine CallVC.pureF hT rfl ?_
    (conv => whnf)
    refine splitB_f rfl ?_
    (conv => whnf)
    refine CallVC.methF [.cells [.p (.int .u8 0), .p (.str ⟨#[]⟩), .p .nils]] [] m1 rfl rfl rfl rfl rfl rfl ?_
    have last : ∀ st2 : RS, (if st2.wrong = 0 then some ((Ex.mk o1 t1 xs1, 0, 0) : Ex × Int × Int) else some (zeroE0, st2.place, st2.wrong)) = some (e, p, w) →
        W Try.prog f31.c20 [(2, .ref (.l 0) 0), (8, .ref (.l 1) 0), (9, .ref (.l 2) 0)] H ([.cells [.p (.int .u8 0), .p (.str ⟨#[]⟩), .p .nils]] ++ rsO L s.size st2 ++ [.cells [.p (.int .u8 o1), .p (.str t1), .p (.list 3 (encs xs1))]])
          (endQ f31 fun r' H' => (∃ p_1, r' = .p p_1 ∧ p_1.le (.tup [enc e, .int .i64 p, .int .i64 w])) ∧ H' = H) := by
      intro st2 hw
      split at hw
      · rename_i h0
        cases hw
        (conv => whnf)
        refine splitB_f (bne_eq_false_iff_eq.2 h0) ?_
        (conv => whnf)
        exact ⟨⟨_, rfl, .refl _⟩, rfl⟩
      · rename_i h0
        cases hw
        (conv => whnf)
        refine splitB_t (bne_iff_ne.2 h0) ?_
        (conv => whnf)
        repeat' (first | exact ⟨⟨_, rfl, tup_le (leaf_le _ _) _ _⟩, rfl⟩ | (refine ⟨rfl, ?_⟩; (conv => whnf)))
    (conv => whnf)
    refine splitB_dec (fun h2 => ?_) (fun h2 => ?_)
    · have hlt : st.a < L.length := by omega
      simp only [if_pos hlt] at h
      (conv => whnf)
      refine CallVC.methF [.cells [.p (.int .u8 0), .p (.str ⟨#[]⟩), .p .nils]] [.cells [.p (.int .u8 o1), .p (.str t1), .p (.list 3 (encs xs1))]] hfl rfl rfl rfl rfl rfl rfl ?_
      have q := last _ h
      (conv at q => whnf)
      (conv => whnf)
      exact q
    · have hlt : ¬ st.a < L.length := by omega
      simp only [if_neg hlt] at h
      have q := last _ h
      (conv at q => whnf)
      (conv => whnf)
      exact q

end Go.Proofs.Ytaanmljlbhkonaa.AD

namespace Go.Proofs.Ytaanmljlbhkonaa.AD
open Go.Proofs
set_option linter.unusedVariables false
set_option linter.unusedSimpArgs false
set_option maxRecDepth 100000

def oneT (op a : Int) : Int :=
  if op = 3 ∧ a = 1 then 1 else if op = 6 ∧ a = 1 then 2 else if op = 8 ∧ a = 1 then 3 else if op = 9 ∧ (a = 2 ∨ a = 3) then a else if op = 25 ∧ a = 4 then 4 else 0
def twoT (op a b : Int) : Int :=
  if op = 4 then (if a = 1 ∧ b = 1 then 1 else 0)
  else if 10 ≤ op ∧ op ≤ 13 then (if a = 2 ∧ b = 2 then 2 else if (a = 2 ∨ a = 3) ∧ (b = 2 ∨ b = 3) then 3 else 0)
  else if op = 14 then (if a = 2 ∧ b = 2 then 2 else 0)
  else if op = 15 then (if (a = 2 ∨ a = 3) ∧ b = 2 then a else 0)
  else if 16 ≤ op ∧ op ≤ 21 then (if (a = 1 ∧ b = 1) ∨ ((a = 2 ∨ a = 3) ∧ (b = 2 ∨ b = 3)) then 4 else 0)
  else if op = 22 then (if a = 1 ∧ b = 1 then 4 else 0)
  else if op = 23 ∨ op = 24 then (if a = 4 ∧ b = 4 then 4 else 0)
  else 0

theorem number_spec (n : Int) : pureF Try.prog 59 [.p (.int .u8 n)] (.p (.bool (decide (n = 2 ∨ n = 3)))) := by
  refine pureF_of f59_ok fun H => ?_
  repeat' ((conv => whnf); (first | refine splitB_t rfl ?_ | refine splitB_f rfl ?_ | refine splitB_dec (fun h => ?_) (fun h => ?_) | refine splitB_eq (fun h => ?_) (fun h => ?_) | refine splitB_ne (fun h => ?_) (fun h => ?_) | refine splitB_intro (fun h => ?_) (fun h => ?_)))
  all_goals exact ⟨congrArg (fun b => AV.p (PV.bool b)) (by rw [Bool.eq_iff_iff]; simp <;> omega), rfl⟩

theorem arity1 {op : Int} (h : arityI op = 1) : op = 3 ∨ op = 6 ∨ op = 8 ∨ op = 9 ∨ op = 25 := by
  simp only [arityI] at h
  split at h
  · omega
  · split at h
    · assumption
    · split at h <;> omega
theorem arity2 {op : Int} (h : arityI op = 2) : op = 4 ∨ op = 10 ∨ op = 11 ∨ op = 12 ∨ op = 13 ∨ op = 14 ∨ op = 15 ∨ op = 16 ∨ op = 17 ∨ op = 18 ∨ op = 19 ∨ op = 20 ∨ op = 21 ∨ op = 22 ∨ op = 23 ∨ op = 24 := by
  simp only [arityI] at h
  split at h
  · omega
  · split at h
    · omega
    · split at h <;> omega

theorem one_spec (op a : Int) (h : arityI op = 1) : pureF Try.prog 39 [.p (.int .u8 op), .p (.int .u8 a)] (.p (.int .u8 (oneT op a))) := by
  refine pureF_of f39_ok fun H => ?_
  rcases arity1 h with rfl | rfl | rfl | rfl | rfl
  all_goals
    repeat' ((conv => whnf); first | refine CallVC.pureF (number_spec _) rfl ?_ | (first | refine splitB_t rfl ?_ | refine splitB_f rfl ?_ | refine splitB_dec (fun h => ?_) (fun h => ?_) | refine splitB_eq (fun h => ?_) (fun h => ?_) | refine splitB_ne (fun h => ?_) (fun h => ?_) | refine splitB_intro (fun h => ?_) (fun h => ?_)))
  all_goals exact ⟨congrArg (fun b => AV.p (PV.int .u8 b)) (by simp [oneT] <;> (repeat' split) <;> omega), rfl⟩

theorem two_spec (op a b : Int) (h : arityI op = 2) : pureF Try.prog 40 [.p (.int .u8 op), .p (.int .u8 a), .p (.int .u8 b)] (.p (.int .u8 (twoT op a b))) := by
  refine pureF_of f40_ok fun H => ?_
  rcases arity2 h with rfl | rfl | rfl | rfl | rfl | rfl | rfl | rfl | rfl | rfl | rfl | rfl | rfl | rfl | rfl | rfl
  all_goals
    repeat' ((conv => whnf); first | refine CallVC.pureF (number_spec _) rfl ?_ | (first | refine splitB_t rfl ?_ | refine splitB_f rfl ?_ | refine splitB_dec (fun h => ?_) (fun h => ?_) | refine splitB_eq (fun h => ?_) (fun h => ?_) | refine splitB_ne (fun h => ?_) (fun h => ?_) | refine splitB_intro (fun h => ?_) (fun h => ?_)))
  all_goals exact ⟨congrArg (fun b => AV.p (PV.int .u8 b)) (by simp [twoT] <;> (repeat' split) <;> omega), rfl⟩

def rowOf (op : Int) : List PV := [.int .u8 (oneT op 0), .int .u8 (oneT op 1), .int .u8 (oneT op 2), .int .u8 (oneT op 3), .int .u8 (oneT op 4)]
def rowTwo (op a : Int) : List PV := [.int .u8 (twoT op a 0), .int .u8 (twoT op a 1), .int .u8 (twoT op a 2), .int .u8 (twoT op a 3), .int .u8 (twoT op a 4)]
def gridOf (op : Int) : List PV := rowTwo op 0 ++ rowTwo op 1 ++ rowTwo op 2 ++ rowTwo op 3 ++ rowTwo op 4

theorem single_spec (op : Int) (h : arityI op = 1) : pureF Try.prog 41 [.p (.int .u8 op)] (.p (.agg (rowOf op))) := by
  refine pureF_of f41_ok fun H => ?_
  rcases arity1 h with rfl | rfl | rfl | rfl | rfl
  all_goals
    repeat' ((conv => whnf); first | exact ⟨rfl, rfl⟩ | refine splitB_t rfl ?_ | refine splitB_f rfl ?_ | refine ⟨⟨by omega, by omega⟩, ?_⟩)

theorem pair111 : pureF Try.prog 60 [.p (.int .u8 1), .p (.int .u8 1), .p (.int .u8 1)] (.p (.agg (gridOf 4))) := by
  refine pureF_of f60_ok fun H => ?_
  repeat' ((conv => whnf); first | exact ⟨rfl, rfl⟩ | refine ⟨⟨by omega, by omega⟩, ?_⟩)
theorem pair222 : pureF Try.prog 60 [.p (.int .u8 2), .p (.int .u8 2), .p (.int .u8 2)] (.p (.agg (gridOf 14))) := by
  refine pureF_of f60_ok fun H => ?_
  repeat' ((conv => whnf); first | exact ⟨rfl, rfl⟩ | refine ⟨⟨by omega, by omega⟩, ?_⟩)
theorem pair114 : pureF Try.prog 60 [.p (.int .u8 1), .p (.int .u8 1), .p (.int .u8 4)] (.p (.agg (gridOf 22))) := by
  refine pureF_of f60_ok fun H => ?_
  repeat' ((conv => whnf); first | exact ⟨rfl, rfl⟩ | refine ⟨⟨by omega, by omega⟩, ?_⟩)
theorem pair444 : pureF Try.prog 60 [.p (.int .u8 4), .p (.int .u8 4), .p (.int .u8 4)] (.p (.agg (gridOf 23))) := by
  refine pureF_of f60_ok fun H => ?_
  repeat' ((conv => whnf); first | exact ⟨rfl, rfl⟩ | refine ⟨⟨by omega, by omega⟩, ?_⟩)
theorem numbers_spec : pureF Try.prog 61 [] (.p (.agg (gridOf 10))) := by
  refine pureF_of f61_ok fun H => ?_
  repeat' ((conv => whnf); first | exact ⟨rfl, rfl⟩ | refine ⟨⟨by omega, by omega⟩, ?_⟩)

theorem of_spec (op : Int) (h : arityI op = 2) : pureF Try.prog 42 [.p (.int .u8 op)] (.p (.agg (gridOf op))) := by
  refine pureF_of f42_ok fun H => ?_
  rcases arity2 h with rfl | rfl | rfl | rfl | rfl | rfl | rfl | rfl | rfl | rfl | rfl | rfl | rfl | rfl | rfl | rfl
  all_goals
    repeat' ((conv => whnf); first | exact ⟨rfl, rfl⟩ | refine splitB_t rfl ?_ | refine splitB_f rfl ?_ | refine ⟨⟨by omega, by omega⟩, ?_⟩ | refine CallVC.pureF pair111 rfl ?_ | refine CallVC.pureF pair222 rfl ?_ | refine CallVC.pureF pair114 rfl ?_ | refine CallVC.pureF pair444 rfl ?_ | refine CallVC.pureF numbers_spec rfl ?_)
  all_goals
    (conv => whnf)
    intro R hR
    refine hR _ _ _ ?_
    repeat' ((conv => whnf); first | refine splitB_t rfl ?_ | refine splitB_f rfl ?_ | refine ⟨⟨by decide, by decide⟩, ?_⟩ | refine ⟨by decide, ?_⟩ | refine ⟨_, rfl, ?_⟩ | exact ⟨rfl, rfl⟩ | (intro R2 hR2; refine hR2 _ _ _ ?_) | refine hR2 _ _ _ ?_ | refine hR _ _ _ ?_)

end Go.Proofs.Ytaanmljlbhkonaa.AD

namespace Go.Proofs.Ytaanmljlbhkonaa.AD
open Go.Proofs
set_option linter.unusedVariables false
set_option linter.unusedSimpArgs false
set_option maxRecDepth 100000

def leafT (o : Int) : Int := if o = 5 then 2 else if o = 7 then 3 else if o = 26 ∨ o = 27 then 4 else 1
def combT (o : Int) : List Int → Int
  | [] => leafT o
  | [a] => oneT o a
  | a :: b :: _ => twoT o a b
mutual
def typeT : Ex → Int
  | .mk o _ xs => combT o (typesT xs)
def typesT : List Ex → List Int
  | [] => []
  | a :: r => typeT a :: typesT r
end

/-- Each kind with as many parts as it has. -/
inductive Shaped : Ex → Prop
  | mk (o : Int) (t : ByteArray) (xs : List Ex) : arityI o = xs.length → (∀ a, a ∈ xs → Shaped a) → Shaped (.mk o t xs)

theorem arity0 {op : Int} (h : arityI op = 0) : op = 1 ∨ op = 2 ∨ op = 5 ∨ op = 7 ∨ op = 26 ∨ op = 27 := by
  simp only [arityI] at h
  split at h
  · assumption
  · split at h
    · omega
    · split at h <;> omega
theorem arity_le (op : Int) : arityI op ≤ 2 := by
  simp only [arityI]
  (repeat' split) <;> omega

theorem Shaped.args {o : Int} {t : ByteArray} {xs : List Ex} (h : Shaped (.mk o t xs)) : (arityI o = 0 ∧ xs = []) ∨ (arityI o = 1 ∧ ∃ a, xs = [a] ∧ Shaped a) ∨ (arityI o = 2 ∧ ∃ a b, xs = [a, b] ∧ Shaped a ∧ Shaped b) := by
  cases h with
  | mk _ _ _ h1 h2 =>
    have := arity_le o
    match xs, h1, h2 with
    | [], h1, _ => exact .inl ⟨h1, rfl⟩
    | [a], h1, h2 => exact .inr (.inl ⟨h1, a, rfl, h2 a (by simp)⟩)
    | [a, b], h1, h2 => exact .inr (.inr ⟨h1, a, b, rfl, h2 a (by simp), h2 b (by simp)⟩)
    | _ :: _ :: _ :: _, h1, _ => simp at h1; omega

theorem oneT_range {o a : Int} (h : 0 ≤ a ∧ a ≤ 4) : 0 ≤ oneT o a ∧ oneT o a ≤ 4 := by simp only [oneT]; (repeat' split) <;> omega
theorem twoT_range {o a b : Int} (h : 0 ≤ a ∧ a ≤ 4) : 0 ≤ twoT o a b ∧ twoT o a b ≤ 4 := by simp only [twoT]; (repeat' split) <;> omega

theorem typeT_range (e : Ex) : Shaped e → 0 ≤ typeT e ∧ typeT e ≤ 4 := by
  induction e using Ex.ind with
  | h o t xs ih =>
    intro h
    rcases h.args with ⟨_, rfl⟩ | ⟨_, a, rfl, ha⟩ | ⟨_, a, b, rfl, ha, hb⟩
    · simp only [typeT, typesT, combT, leafT]; (repeat' split) <;> omega
    · simp only [typeT, typesT, combT]; exact oneT_range (ih a (by simp) ha)
    · simp only [typeT, typesT, combT]; exact twoT_range (ih a (by simp) ha)

theorem Type_spec (e : Ex) : Shaped e → pureF Try.prog 24 [.p (enc e)] (.p (.int .u8 (typeT e))) := by
  induction e using Ex.ind with
  | h o t xs ih =>
    intro h
    refine pureF_of f24_ok fun H => ?_
    rcases h.args with ⟨h0, rfl⟩ | ⟨h0, a, rfl, ha⟩ | ⟨h0, a, b, rfl, ha, hb⟩
    · rcases arity0 h0 with rfl | rfl | rfl | rfl | rfl | rfl
      all_goals
        repeat' ((conv => whnf); first | refine splitB_t rfl ?_ | refine splitB_f rfl ?_ | exact ⟨rfl, rfl⟩)
    · have iha := ih a (by simp) ha
      have hone := one_spec o (typeT a) h0
      obtain ⟨o', t', xs'⟩ := a
      rcases arity1 h0 with rfl | rfl | rfl | rfl | rfl
      all_goals
        repeat' ((conv => whnf); first | refine splitB_t rfl ?_ | refine splitB_f rfl ?_ | refine CallVC.pureF iha rfl ?_ | refine CallVC.pureF hone rfl ?_ | exact ⟨rfl, rfl⟩ | refine ⟨rfl, enc (.mk o' t' xs'), ⟨by decide, rfl⟩, ?_⟩)
    · have iha := ih a (by simp) ha
      have ihb := ih b (by simp) hb
      have htwo := two_spec o (typeT a) (typeT b) h0
      obtain ⟨o', t', xs'⟩ := a
      obtain ⟨o2, t2, xs2⟩ := b
      rcases arity2 h0 with rfl | rfl | rfl | rfl | rfl | rfl | rfl | rfl | rfl | rfl | rfl | rfl | rfl | rfl | rfl | rfl
      all_goals
        repeat' ((conv => whnf); first | refine splitB_t rfl ?_ | refine splitB_f rfl ?_ | refine CallVC.pureF iha rfl ?_ | refine CallD.pureF ihb rfl ?_ | refine CallD.pureF htwo rfl ?_ | exact ⟨rfl, rfl⟩ | refine ⟨rfl, enc (.mk o' t' xs'), ⟨by decide, rfl⟩, ?_⟩ | refine ⟨rfl, enc (.mk o2 t2 xs2), ⟨by decide, rfl⟩, ?_⟩)

theorem row_get {op i : Int} (h : 0 ≤ i ∧ i ≤ 4) : (rowOf op)[i.toNat * 1]? = some (.int .u8 (oneT op i)) := by
  have : i = 0 ∨ i = 1 ∨ i = 2 ∨ i = 3 ∨ i = 4 := by omega
  rcases this with rfl | rfl | rfl | rfl | rfl <;> rfl
theorem grid_get {op i : Int} (h : 0 ≤ i ∧ i ≤ 4) : ((gridOf op).drop (i.toNat * 5)).take 5 = rowTwo op i := by
  have : i = 0 ∨ i = 1 ∨ i = 2 ∨ i = 3 ∨ i = 4 := by omega
  rcases this with rfl | rfl | rfl | rfl | rfl <;> rfl
theorem row2_get {op a i : Int} (h : 0 ≤ i ∧ i ≤ 4) : (rowTwo op a)[i.toNat * 1]? = some (.int .u8 (twoT op a i)) := by
  have : i = 0 ∨ i = 1 ∨ i = 2 ∨ i = 3 ∨ i = 4 := by omega
  rcases this with rfl | rfl | rfl | rfl | rfl <;> rfl

theorem typed_spec (e : Ex) : Shaped e → pureF Try.prog 25 [.p (enc e)] (.p (.int .u8 (typeT e))) := by
  induction e using Ex.ind with
  | h o t xs ih =>
    intro h
    refine pureF_of f25_ok fun H => ?_
    rcases h.args with ⟨h0, rfl⟩ | ⟨h0, a, rfl, ha⟩ | ⟨h0, a, b, rfl, ha, hb⟩
    · rcases arity0 h0 with rfl | rfl | rfl | rfl | rfl | rfl
      all_goals
        repeat' ((conv => whnf); first | refine splitB_t rfl ?_ | refine splitB_f rfl ?_ | exact ⟨rfl, rfl⟩)
    · have iha := ih a (by simp) ha
      have hra := typeT_range a ha
      have hs := single_spec o h0
      obtain ⟨o', t', xs'⟩ := a
      (conv => whnf)
      refine splitB_t rfl ?_
      (conv => whnf)
      refine CallD.pureF hs rfl ?_
      (conv => whnf)
      refine ⟨rfl, enc (.mk o' t' xs'), ⟨by decide, rfl⟩, ?_⟩
      (conv => whnf)
      refine CallD.pureF iha rfl ?_
      (conv => whnf)
      refine ⟨⟨by omega, by omega⟩, _, row_get hra, ?_⟩
      exact ⟨rfl, rfl⟩
    · have iha := ih a (by simp) ha
      have ihb := ih b (by simp) hb
      have hra := typeT_range a ha
      have hrb := typeT_range b hb
      have hs := of_spec o h0
      obtain ⟨o', t', xs'⟩ := a
      obtain ⟨o2, t2, xs2⟩ := b
      (conv => whnf)
      refine splitB_f rfl ?_
      (conv => whnf)
      refine splitB_t rfl ?_
      (conv => whnf)
      refine CallD.pureF hs rfl ?_
      (conv => whnf)
      refine ⟨rfl, enc (.mk o' t' xs'), ⟨by decide, rfl⟩, ?_⟩
      (conv => whnf)
      refine CallD.pureF iha rfl ?_
      (conv => whnf)
      refine ⟨⟨by omega, by omega⟩, by simp only [gridOf, rowTwo, List.length_append, List.length_cons, List.length_nil]; omega, ?_⟩
      rw [grid_get hra]
      (conv => whnf)
      refine ⟨rfl, enc (.mk o2 t2 xs2), ⟨by decide, rfl⟩, ?_⟩
      (conv => whnf)
      refine CallD.pureF ihb rfl ?_
      (conv => whnf)
      refine ⟨⟨by omega, by omega⟩, _, row2_get hrb, ?_⟩
      exact ⟨rfl, rfl⟩

end Go.Proofs.Ytaanmljlbhkonaa.AD

namespace Go.Proofs.Ytaanmljlbhkonaa.AD
open Go.Proofs
set_option linter.unusedVariables false
set_option linter.unusedSimpArgs false
set_option maxRecDepth 100000

def eqS (s t : ByteArray) : Bool := s.toList == t.toList
def textOk (o : Int) (t : ByteArray) : Bool :=
  if o = 1 then true
  else if o = 2 then nameB t && (!eqS t ⟨#[116, 114, 117, 101]⟩ && !eqS t ⟨#[102, 97, 108, 115, 101]⟩)
  else if o = 5 then digitsB t
  else if o = 7 then decB t
  else eqS t ⟨#[]⟩
mutual
def mayE : Ex → Bool
  | .mk o t xs => decide (arityI o = xs.length) && (textOk o t && mayL xs)
def mayL : List Ex → Bool
  | [] => true
  | a :: r => mayE a && mayL r
end
theorem mayL_all : ∀ xs, mayL xs = xs.all mayE
  | [] => rfl
  | a :: r => by rw [mayL, mayL_all r]; rfl

theorem shaped_of (e : Ex) : mayE e = true → Shaped e := by
  induction e using Ex.ind with
  | h o t xs ih =>
    intro h
    simp only [mayE, Bool.and_eq_true, decide_eq_true_eq, mayL_all, List.all_eq_true] at h
    exact .mk o t xs h.1 fun a ha => ih a ha (h.2.2 a ha)

/-! ### the program's -/
/-- The first of which something holds. -/
def idxF {α : Type} (p : α → Bool) : List α → Int
  | [] => -1
  | a :: r => if p a then 0 else if idxF p r = -1 then -1 else idxF p r + 1
theorem idxF_ge {α : Type} (p : α → Bool) : ∀ xs : List α, -1 ≤ idxF p xs
  | [] => by simp [idxF]
  | a :: r => by have := idxF_ge p r; simp only [idxF]; (repeat' split) <;> omega
theorem idxF_any {α : Type} (p : α → Bool) : ∀ xs : List α, decide (idxF p xs ≥ 0) = xs.any p
  | [] => by simp [idxF]
  | a :: r => by
    have h1 := idxF_any p r
    have h2 := idxF_ge p r
    rw [List.any_cons, ← h1]
    simp only [idxF]
    by_cases hp : p a = true
    · simp [hp]
    · have hp : p a = false := by simpa using hp
      simp only [hp, Bool.false_or, Bool.false_eq_true, if_false]
      by_cases h3 : idxF p r = -1
      · rw [if_pos h3, h3]
      · rw [if_neg h3, decide_eq_decide]; omega

theorem IndexFuncE_spec (xs : List Ex) (hx : (xs.length : Int) ≤ 9223372036854775807) (p : Ex → Bool) (f : Nat) (hf : enters Try.prog f = true) (hp : ∀ a, a ∈ xs → pureF Try.prog f [.p (enc a)] (.p (.bool (p a)))) :
    pureF Try.prog 67 [.p (.list 3 (encs xs)), .p (.fn (.func f))] (.p (.int .i64 (idxF p xs))) := by
  refine pureF_of f67_ok fun H => ?_
  (conv => whnf)
  intro R hR
  have he := encs_len xs
  have key : ∀ (rest : List Ex) (i : Nat), xs.drop i = rest → idxF p xs = (if idxF p rest = -1 then -1 else idxF p rest + i) → R [(0, .p (.list 3 (encs xs))), (1, .p (.fn (.func f))), (7, .p (.int .i64 (encs xs).length)), (8, .p (.int .i64 i))] H [] := by
    intro rest
    induction rest with
    | nil =>
      intro i hd hq
      have hl := drop_nil hd
      refine hR _ _ _ ?_
      (conv => whnf)
      refine splitB_f (decide_eq_false (by omega)) ?_
      exact ⟨by rw [hq]; rfl, rfl⟩
    | cons a r ih =>
      intro i hd hq
      obtain ⟨hg, hd', hi⟩ := drop_cons hd
      have hpa := hp a (List.mem_of_getElem? hg)
      refine hR _ _ _ ?_
      (conv => whnf)
      refine splitB_t (decide_eq_true (by omega)) ?_
      (conv => whnf)
      obtain ⟨o', t', xs'⟩ := a
      refine ⟨rfl, enc (.mk o' t' xs'), ⟨by omega, encs_get hg⟩, ?_⟩
      (conv => whnf)
      refine ⟨hf, ?_⟩
      refine CallVC.pureF hpa rfl ?_
      (conv => whnf)
      refine splitB_intro (fun h => ?_) (fun h => ?_)
      · exact ⟨by rw [hq]; simp [idxF, h], rfl⟩
      · (conv => whnf)
        rw [IntWalk.i64_in _ (by omega)]
        refine ih (i + 1) hd' ?_
        rw [hq]
        simp only [idxF, h, Bool.false_eq_true, if_false]
        have := idxF_ge p r
        by_cases h3 : idxF p r = -1
        · rw [if_pos h3, if_pos rfl, if_pos h3]
        · rw [if_neg h3, if_neg (by omega), if_neg h3]; push_cast; omega
  refine key xs 0 rfl ?_
  by_cases h3 : idxF p xs = -1
  · rw [if_pos h3]; exact h3
  · rw [if_neg h3]; simp

theorem ContainsFuncE_spec (xs : List Ex) (hx : (xs.length : Int) ≤ 9223372036854775807) (p : Ex → Bool) (f : Nat) (hf : enters Try.prog f = true) (hp : ∀ a, a ∈ xs → pureF Try.prog f [.p (enc a)] (.p (.bool (p a)))) :
    pureF Try.prog 47 [.p (.list 3 (encs xs)), .p (.fn (.func f))] (.p (.bool (xs.any p))) := by
  refine pureF_of f47_ok fun H => ?_
  (conv => whnf)
  refine CallVC.pureF (IndexFuncE_spec xs hx p f hf hp) rfl ?_
  exact ⟨by rw [← idxF_any], rfl⟩

theorem mayFn_spec (a : Ex) (h : pureF Try.prog 26 [.p (enc a)] (.p (.bool (mayE a)))) : pureF Try.prog 48 [.p (enc a)] (.p (.bool (!mayE a))) := by
  refine pureF_of f48_ok fun H => ?_
  obtain ⟨o, t, xs⟩ := a
  (conv => whnf)
  refine CallVC.pureF h rfl ?_
  exact ⟨rfl, rfl⟩

theorem may_spec (e : Ex) : Fits e → pureF Try.prog 26 [.p (enc e)] (.p (.bool (mayE e))) := by
  induction e using Ex.ind with
  | h o t xs ih =>
    intro hfit
    cases hfit with
    | mk _ _ _ ho ht hx hxs =>
    have he := encs_len xs
    have hany : pureF Try.prog 47 [.p (.list 3 (encs xs)), .p (.fn (.func 48))] (.p (.bool (xs.any fun a => !mayE a))) :=
      ContainsFuncE_spec xs hx (fun a => !mayE a) 48 (by kernel_rfl) fun a ha => mayFn_spec a (ih a ha (hxs a ha))
    have hall : (!(xs.any fun a => !mayE a)) = mayL xs := by rw [mayL_all, List.not_any_eq_all_not]; simp
    refine pureF_of f26_ok fun H => ?_
    (conv => whnf)
    refine CallD.pureF (arity_spec o ho) rfl ?_
    (conv => whnf)
    refine splitB_ne (fun h => ?_) (fun h => ?_)
    · exact ⟨by rw [mayE, decide_eq_false (by omega)]; rfl, rfl⟩
    · have h2 : mayE (.mk o t xs) = (textOk o t && mayL xs) := by rw [mayE, decide_eq_true (by omega)]; rfl
      have last : ∀ b : Bool, textOk o t = b → W Try.prog f26.c26 [(1, .ref (.l 0) 0), (3, .p (.bool b))] H [.cells [.p (.int .u8 o), .p (.str t), .p (.list 3 (encs xs))]] (endQ f26 fun r' H' => r' = .p (.bool (mayE (.mk o t xs))) ∧ H' = H) := by
        intro b hb
        cases b with
        | false =>
          (conv => whnf)
          refine splitB_f rfl ?_
          exact ⟨by rw [h2, hb]; rfl, rfl⟩
        | true =>
          (conv => whnf)
          refine splitB_t rfl ?_
          (conv => whnf)
          refine CallVC.pureF hany rfl ?_
          exact ⟨by rw [h2, hb, ← hall]; rfl, rfl⟩
      (conv => whnf)
      refine splitB_eq (fun h3 => ?_) (fun h3 => ?_)
      · have q := last true (by rw [textOk, if_pos h3])
        (conv at q => whnf)
        (conv => whnf)
        exact q
      · (conv => whnf)
        refine splitB_eq (fun h4 => ?_) (fun h4 => ?_)
        · have ht2 : textOk o t = (nameB t && (!eqS t ⟨#[116, 114, 117, 101]⟩ && !eqS t ⟨#[102, 97, 108, 115, 101]⟩)) := by rw [textOk, if_neg h3, if_pos h4]
          (conv => whnf)
          refine CallVC.pureF (Name_spec t ht) rfl ?_
          (conv => whnf)
          refine splitB_intro (fun h5 => ?_) (fun h5 => ?_)
          · have h5 : nameB t = true := h5
            (conv => whnf)
            refine splitB_intro (fun h6 => ?_) (fun h6 => ?_)
            · have h6 : (!eqS t ⟨#[116, 114, 117, 101]⟩) = true := h6
              have q := last (!eqS t ⟨#[102, 97, 108, 115, 101]⟩) (by rw [ht2, h5, h6]; rfl)
              (conv at q => whnf)
              (conv => whnf)
              exact q
            · have h6 : (!eqS t ⟨#[116, 114, 117, 101]⟩) = false := h6
              have q := last false (by rw [ht2, h5, h6]; rfl)
              (conv at q => whnf)
              (conv => whnf)
              exact q
          · have h5 : nameB t = false := h5
            (conv => whnf)
            refine splitB_f rfl ?_
            have q := last false (by rw [ht2, h5]; rfl)
            (conv at q => whnf)
            (conv => whnf)
            exact q
        · (conv => whnf)
          refine splitB_eq (fun h5 => ?_) (fun h5 => ?_)
          · (conv => whnf)
            refine CallVC.pureF (digits_spec t ht) rfl ?_
            have q := last (digitsB t) (by rw [textOk, if_neg h3, if_neg h4, if_pos h5])
            (conv at q => whnf)
            (conv => whnf)
            exact q
          · (conv => whnf)
            refine splitB_eq (fun h6 => ?_) (fun h6 => ?_)
            · have ht2 : textOk o t = decB t := by rw [textOk, if_neg h3, if_neg h4, if_neg h5, if_pos h6]
              have hsz : ∀ a b, ((t.extract a b).size : Int) ≤ 9223372036854775807 := fun a b => by
                have : (t.extract a b).size ≤ t.size := by simp [ByteArray.size_extract]; omega
                omega
              have hs1 : ((cutAt t 46).1.size : Int) ≤ 9223372036854775807 := by
                rw [cutAt]; split
                · exact hsz _ _
                · exact ht
              have hs2 : ((cutAt t 46).2.1.size : Int) ≤ 9223372036854775807 := by
                rw [cutAt]; split
                · exact hsz _ _
                · show ((0 : Nat) : Int) ≤ 9223372036854775807
                  omega
              (conv => whnf)
              refine CallVC.pureF (Cut_spec t ht 46) rfl ?_
              (conv => whnf)
              refine splitB_intro (fun h7 => ?_) (fun h7 => ?_)
              · have h7 : (cutAt t 46).2.2 = true := h7
                (conv => whnf)
                refine CallVC.pureF (digits_spec _ hs1) rfl ?_
                (conv => whnf)
                refine splitB_intro (fun h8 => ?_) (fun h8 => ?_)
                · have h8 : digitsB (cutAt t 46).1 = true := h8
                  (conv => whnf)
                  refine CallVC.pureF (digits_spec _ hs2) rfl ?_
                  have q := last (digitsB (cutAt t 46).2.1) (by rw [ht2, decB, h7, h8]; rfl)
                  (conv at q => whnf)
                  (conv => whnf)
                  exact q
                · have h8 : digitsB (cutAt t 46).1 = false := h8
                  have q := last false (by rw [ht2, decB, h7, h8]; rfl)
                  (conv at q => whnf)
                  (conv => whnf)
                  exact q
              · have h7 : (cutAt t 46).2.2 = false := h7
                (conv => whnf)
                refine splitB_f rfl ?_
                have q := last false (by rw [ht2, decB, h7]; rfl)
                (conv at q => whnf)
                (conv => whnf)
                exact q
            · have q := last (eqS t ⟨#[]⟩) (by rw [textOk, if_neg h3, if_neg h4, if_neg h5, if_neg h6])
              (conv at q => whnf)
              (conv => whnf)
              exact q

/-! ### the document's -/
theorem May_spec (e : Ex) : Fits e → pureF Try.prog 23 [.p (enc e)] (.p (.bool (mayE e))) := by
  induction e using Ex.ind with
  | h o t xs ih =>
    intro hfit
    cases hfit with
    | mk _ _ _ ho ht hx hxs =>
    have he := encs_len xs
    refine pureF_of f23_ok fun H => ?_
    (conv => whnf)
    refine CallD.pureF (Parts_spec o) rfl ?_
    (conv => whnf)
    refine splitB_ne (fun h => ?_) (fun h => ?_)
    · exact ⟨by rw [mayE, decide_eq_false (by omega)]; rfl, rfl⟩
    · have h2 : mayE (.mk o t xs) = (textOk o t && mayL xs) := by rw [mayE, decide_eq_true (by omega)]; rfl
      have last : ∀ b : Bool, textOk o t = b → W Try.prog f23.c39 [(1, .ref (.l 0) 0), (3, .p (.bool b))] H [.cells [.p (.int .u8 o), .p (.str t), .p (.list 3 (encs xs))]] (endQ f23 fun r' H' => r' = .p (.bool (mayE (.mk o t xs))) ∧ H' = H) := by
        intro b hb
        cases b with
        | false =>
          (conv => whnf)
          refine splitB_t rfl ?_
          exact ⟨by rw [h2, hb]; rfl, rfl⟩
        | true =>
          rw [hb, Bool.true_and] at h2
          (conv => whnf)
          refine splitB_f rfl ?_
          (conv => whnf)
          intro R hR
          have key : ∀ (rest : List Ex) (i : Nat), xs.drop i = rest → mayL xs = mayL rest → R [(1, .ref (.l 0) 0), (4, .p (.int .i64 i))] H [.cells [.p (.int .u8 o), .p (.str t), .p (.list 3 (encs xs))]] := by
            intro rest
            induction rest with
            | nil =>
              intro i hd hq
              have hl := drop_nil hd
              refine hR _ _ _ ?_
              (conv => whnf)
              refine splitB_f (decide_eq_false (by omega)) ?_
              exact ⟨by rw [h2, hq]; rfl, rfl⟩
            | cons a r ihr =>
              intro i hd hq
              obtain ⟨hg, hd', hi⟩ := drop_cons hd
              have iha := ih a (List.mem_of_getElem? hg) (hxs a (List.mem_of_getElem? hg))
              rw [mayL] at hq
              refine hR _ _ _ ?_
              (conv => whnf)
              refine splitB_t (decide_eq_true (by omega)) ?_
              (conv => whnf)
              obtain ⟨o', t', xs'⟩ := a
              refine ⟨rfl, enc (.mk o' t' xs'), ⟨by omega, encs_get hg⟩, ?_⟩
              (conv => whnf)
              refine CallVC.pureF iha rfl ?_
              (conv => whnf)
              refine splitB_intro (fun h3 => ?_) (fun h3 => ?_)
              · have h3 : mayE (.mk o' t' xs') = false := by simpa using h3
                exact ⟨by rw [h2, hq, h3]; rfl, rfl⟩
              · have h3 : mayE (.mk o' t' xs') = true := by simpa using h3
                (conv => whnf)
                rw [IntWalk.i64_in _ (by omega)]
                exact ihr (i + 1) hd' (by rw [hq, h3]; rfl)
          exact key xs 0 rfl rfl
      (conv => whnf)
      refine splitB_eq (fun h3 => ?_) (fun h3 => ?_)
      · have q := last true (by rw [textOk, if_pos h3])
        (conv at q => whnf)
        (conv => whnf)
        exact q
      · (conv => whnf)
        refine splitB_eq (fun h4 => ?_) (fun h4 => ?_)
        · have ht2 : textOk o t = (nameB t && (!eqS t ⟨#[116, 114, 117, 101]⟩ && !eqS t ⟨#[102, 97, 108, 115, 101]⟩)) := by rw [textOk, if_neg h3, if_pos h4]
          (conv => whnf)
          refine CallVC.pureF (refName_spec t ht) rfl ?_
          (conv => whnf)
          refine splitB_intro (fun h5 => ?_) (fun h5 => ?_)
          · have h5 : nameB t = true := h5
            (conv => whnf)
            refine splitB_intro (fun h6 => ?_) (fun h6 => ?_)
            · have h6 : (!eqS t ⟨#[116, 114, 117, 101]⟩) = true := h6
              have q := last (!eqS t ⟨#[102, 97, 108, 115, 101]⟩) (by rw [ht2, h5, h6]; rfl)
              (conv at q => whnf)
              (conv => whnf)
              exact q
            · have h6 : (!eqS t ⟨#[116, 114, 117, 101]⟩) = false := h6
              have q := last false (by rw [ht2, h5, h6]; rfl)
              (conv at q => whnf)
              (conv => whnf)
              exact q
          · have h5 : nameB t = false := h5
            (conv => whnf)
            refine splitB_f rfl ?_
            have q := last false (by rw [ht2, h5]; rfl)
            (conv at q => whnf)
            (conv => whnf)
            exact q
        · (conv => whnf)
          refine splitB_eq (fun h5 => ?_) (fun h5 => ?_)
          · (conv => whnf)
            refine CallVC.pureF (refDigits_spec t ht) rfl ?_
            have q := last (digitsB t) (by rw [textOk, if_neg h3, if_neg h4, if_pos h5])
            (conv at q => whnf)
            (conv => whnf)
            exact q
          · (conv => whnf)
            refine splitB_eq (fun h6 => ?_) (fun h6 => ?_)
            · (conv => whnf)
              refine CallVC.pureF (Dec_spec t ht) rfl ?_
              have q := last (decB t) (by rw [textOk, if_neg h3, if_neg h4, if_neg h5, if_pos h6])
              (conv at q => whnf)
              (conv => whnf)
              exact q
            · have q := last (eqS t ⟨#[]⟩) (by rw [textOk, if_neg h3, if_neg h4, if_neg h5, if_neg h6])
              (conv at q => whnf)
              (conv => whnf)
              exact q

end Go.Proofs.Ytaanmljlbhkonaa.AD
