/- Reading a program's bytes, plainly: what is read at which place, and the first error with its place; what was written is read back, each shorter beginning ends at its end. No walk here. -/
import Derived.Test.YtmhmappdohddeaaCodeC
namespace Go.Proofs.Ytmhmappdohddeaa.CodeD
open Go.RowKit Go.Proofs.YtmhmappdohddeaaW.PrintWords Go.Proofs.Ytmhmappdohddeaa.H Go.Proofs.Ytmhmappdohddeaa.CodeA Go.Proofs.Ytmhmappdohddeaa.CodeB Go.Proofs.Ytmhmappdohddeaa.CodeC
set_option linter.unusedVariables false
set_option linter.unusedSimpArgs false

/-- What a reader answers: a value and the place behind it, or an error and its place. -/
inductive Out (α : Type) where
  | ok (a : α) (pos : Nat)
  | er (e : Int) (fr : Nat)
def Out.bind {α β : Type} : Out α → (α → Nat → Out β) → Out β
  | .ok a p, f => f a p
  | .er e fr, _ => .er e fr

def oct (b : List Int) (p : Int → Bool) (pos : Nat) : Out Int :=
  match b[pos]? with
  | some c => if p c then .ok c (pos + 1) else .er 210 pos
  | none => .er 210 pos

def numL (b : List Int) (most : Nat) (start : Nat) : Nat → Nat → Nat → Nat → Out Nat
  | 0, _, _, _ => .er 210 start
  | k + 1, pos, u, sh =>
    match b[pos]? with
    | none => .er 210 pos
    | some c =>
      let v := u + (c.toNat % 128) * 2 ^ sh
      if c < 128 then (if v > 2147483647 ∨ (sh > 0 ∧ c = 0) then .er 210 start else if v > most then .er 3 start else .ok v (pos + 1))
      else numL b most start k (pos + 1) v (sh + 7)
def num (b : List Int) (most : Nat) (pos : Nat) : Out Nat := numL b most pos 5 pos 0 0

def text (b : List Int) (pos : Nat) : Out ByteArray := (num b 2147483647 pos).bind fun n p => if n > b.length - p then .er 210 b.length else .ok (strOfNums ((b.drop p).take n)) (p + n)

def many {α : Type} (f : Nat → Out α) : Nat → Nat → Out (List α)
  | 0, pos => .ok [] pos
  | n + 1, pos => (f pos).bind fun a p => (many f n p).bind fun l q => .ok (a :: l) q

def isOp (c : Int) : Bool := decide (1 ≤ c) && decide (c ≤ 38)
def isKind (c : Int) : Bool := c == 1 || c == 2
def instr (b : List Int) (pos : Nat) : Out S41 := (oct b isOp pos).bind fun op p =>
  (if hasA op then num b 2147483647 p else .ok 0 p).bind fun x p => (if hasB op then num b 2147483647 p else .ok 0 p).bind fun y p => .ok ⟨op, x, y⟩ p

structure Prog where
  kd : Int
  ts : List ByteArray
  xs : List S41
  st : Int

def dec0 (b : List Int) (pos : Nat) : Out Prog :=
  (oct b (· == 86) pos).bind fun _ p => (oct b (· == 80) p).bind fun _ p => (oct b isKind p).bind fun kd p => (num b 2147483647 p).bind fun st p =>
    (num b 8192 p).bind fun n p => (many (text b) n p).bind fun ts p => (num b 32768 p).bind fun m p => (many (instr b) m p).bind fun xs p => .ok ⟨kd, ts, xs, st⟩ p
/-- What stands in the bytes, or the first error and its place. -/
def dec (b : List Int) : Out Prog := (dec0 b 0).bind fun q p => if p < b.length then .er 210 p else .ok q p

/-! ### Encoders and readers -/
/-- A reader reads back what is written: whole, and of each beginning that is cut it says so at the end. -/
structure Reads {α : Type} (f : List Int → Nat → Out α) (w : List Int) (a : α) : Prop where
  full : ∀ (b : List Int) (pos : Nat) (r : List Int), b.drop pos = w ++ r → pos ≤ b.length → f b pos = .ok a (pos + w.length)
  cut : ∀ (b : List Int) (pos : Nat) (t : List Int), t ≠ [] → b.drop pos ++ t = w → pos ≤ b.length → f b pos = .er 210 b.length

theorem drop_get {b : List Int} {pos : Nat} {c : Int} {r : List Int} (h : b.drop pos = c :: r) : b[pos]? = some c ∧ b.drop (pos + 1) = r ∧ pos < b.length := by
  have hlt : pos < b.length := by
    rcases Nat.lt_or_ge pos b.length with h' | h'
    · exact h'
    · rw [List.drop_eq_nil_of_le h'] at h; cases h
  rw [List.drop_eq_getElem_cons hlt] at h
  injection h with h1 h2
  exact ⟨by rw [List.getElem?_eq_getElem hlt, h1], h2, hlt⟩
theorem drop_none {b : List Int} {pos : Nat} (h : b.drop pos = []) (hp : pos ≤ b.length) : b[pos]? = none ∧ pos = b.length := by
  have : b.length ≤ pos := List.drop_eq_nil_iff.1 h
  exact ⟨List.getElem?_eq_none this, by omega⟩

theorem reads_nil {α : Type} (a : α) : Reads (fun _ p => .ok a p) [] a :=
  ⟨fun b pos r _ _ => by simp, fun b pos t ht h _ => absurd (List.append_eq_nil_iff.1 h).2 ht⟩

/-- One behind the other. -/
theorem reads_bind {α β : Type} {f : List Int → Nat → Out α} {g : α → List Int → Nat → Out β} {w v : List Int} {a : α} {c : β} (hf : Reads f w a) (hg : Reads (g a) v c) :
    Reads (fun b p => (f b p).bind fun x q => g x b q) (w ++ v) c := by
  refine ⟨fun b pos r h hp => ?_, fun b pos t ht h hp => ?_⟩
  · rw [List.append_assoc] at h
    rw [hf.full b pos _ h hp]
    have hl : (b.drop pos).length = (w ++ (v ++ r)).length := by rw [h]
    rw [List.length_drop, List.length_append] at hl
    have hd : b.drop (pos + w.length) = v ++ r := by rw [← List.drop_drop, h, List.drop_left]
    show g a b _ = _
    rw [hg.full b _ r hd (by omega), List.length_append, Nat.add_assoc]
  · rcases List.append_eq_append_iff.1 h with ⟨u, h1, h2⟩ | ⟨u, h1, h2⟩
    · -- the beginning ends within w
      rcases Classical.em (u = []) with hu | hu
      · subst hu
        rw [List.append_nil] at h1
        rw [List.nil_append] at h2
        rw [hf.full b pos [] (by rw [List.append_nil]; exact h1.symm) hp]
        have hl : (b.drop pos).length = w.length := by rw [← h1]
        rw [List.length_drop] at hl
        show g a b _ = _
        refine hg.cut b _ t ht ?_ (by omega)
        rw [← List.drop_drop, ← h1, List.drop_length, List.nil_append, h2]
      · rw [hf.cut b pos u hu h1.symm hp]
        rfl
    · rw [hf.full b pos u h1 hp]
      have hl : (b.drop pos).length = (w ++ u).length := by rw [h1]
      rw [List.length_drop, List.length_append] at hl
      have hd : b.drop (pos + w.length) = u := by rw [← List.drop_drop, h1, List.drop_left]
      show g a b _ = _
      exact hg.cut b _ t ht (by rw [hd, h2]) (by omega)

theorem reads_oct (p : Int → Bool) (c : Int) (hp : p c = true) : Reads (fun b => oct b p) [c] c := by
  refine ⟨fun b pos r h _ => ?_, fun b pos t ht h hpos => ?_⟩
  · obtain ⟨h1, _, _⟩ := drop_get (c := c) (r := r) (by simpa using h)
    simp only [oct, h1, hp, if_true, List.length_singleton]
  · have : b.drop pos = [] := by
      cases hd : b.drop pos with
      | nil => rfl
      | cons x l =>
        rw [hd] at h
        simp only [List.cons_append, List.cons.injEq] at h
        exact absurd (List.append_eq_nil_iff.1 h.2).2 ht
    obtain ⟨h1, h2⟩ := drop_none this hpos
    simp only [oct, h1]; rw [h2]

theorem put_cons_pos (m : Nat) (h : ¬ m < 128) : m / 128 ≠ 0 := by omega

theorem numL_full (b : List Int) (most start : Nat) (k : Nat) : ∀ (m pos u sh : Nat) (r : List Int), 0 < k → b.drop pos = put m ++ r → m < 128 ^ k → u + m * 2 ^ sh ≤ 2147483647 → u + m * 2 ^ sh ≤ most → (m ≠ 0 ∨ sh = 0) →
    numL b most start k pos u sh = .ok (u + m * 2 ^ sh) (pos + (put m).length) := by
  induction k with
  | zero => intro m pos u sh r hk; omega
  | succ k ih =>
    intro m pos u sh r _ h hm h1 h2 h3
    by_cases hs : m < 128
    · rw [put_small hs] at h ⊢
      obtain ⟨g1, _, _⟩ := drop_get (c := (m : Int)) (r := r) (by simpa using h)
      have e : ((m : Int).toNat % 128) = m := by rw [Int.toNat_natCast]; omega
      have c1 : (m : Int) < 128 := by omega
      have c2 : ¬ (u + m * 2 ^ sh > 2147483647 ∨ (sh > 0 ∧ (m : Int) = 0)) := by omega
      have c3 : ¬ u + m * 2 ^ sh > most := by omega
      simp only [numL, g1, e, c1, if_true, c2, c3, if_false, List.length_singleton]
    · rw [put_large hs] at h ⊢
      obtain ⟨g1, g2, _⟩ := drop_get (c := ((m % 128 + 128 : Nat) : Int)) (r := put (m / 128) ++ r) (by simpa using h)
      have e : (((m % 128 + 128 : Nat) : Int).toNat % 128) = m % 128 := by rw [Int.toNat_natCast]; omega
      have c1 : ¬ ((m % 128 + 128 : Nat) : Int) < 128 := by omega
      have key : u + m % 128 * 2 ^ sh + m / 128 * 2 ^ (sh + 7) = u + m * 2 ^ sh := by
        have p7 : 2 ^ (sh + 7) = 128 * 2 ^ sh := by rw [Nat.pow_add, Nat.mul_comm]
        rw [p7, Nat.add_assoc, ← Nat.mul_assoc, ← Nat.add_mul]
        congr 2
        omega
      have hk0 : 0 < k := by rcases Nat.eq_zero_or_pos k with hk | hk; (subst hk; simp at hm; omega); exact hk
      have h5 := ih (m / 128) (pos + 1) (u + m % 128 * 2 ^ sh) (sh + 7) r hk0 g2 (by rw [Nat.pow_succ] at hm; omega) (by rw [key]; exact h1) (by rw [key]; exact h2) (.inl (by omega))
      rw [key] at h5
      simp only [numL, g1, e, c1, if_false, h5, List.length_cons]
      congr 1
      omega

theorem numL_cut (b : List Int) (most start : Nat) (k : Nat) : ∀ (m pos u sh : Nat) (t : List Int), 0 < k → t ≠ [] → b.drop pos ++ t = put m → pos ≤ b.length → m < 128 ^ k →
    numL b most start k pos u sh = .er 210 b.length := by
  induction k with
  | zero => intro m pos u sh t hk; omega
  | succ k ih =>
    intro m pos u sh t _ ht h hp hm
    cases hd : b.drop pos with
    | nil =>
      obtain ⟨g1, g2⟩ := drop_none hd hp
      simp only [numL, g1]; rw [g2]
    | cons c l =>
      rw [hd] at h
      obtain ⟨g1, g2, g3⟩ := drop_get hd
      by_cases hs : m < 128
      · rw [put_small hs] at h
        simp only [List.cons_append, List.cons.injEq] at h
        exact absurd (List.append_eq_nil_iff.1 h.2).2 ht
      · rw [put_large hs] at h
        simp only [List.cons_append, List.cons.injEq] at h
        have c1 : ¬ c < 128 := by omega
        have hk0 : 0 < k := by rcases Nat.eq_zero_or_pos k with hk | hk; (subst hk; simp at hm; omega); exact hk
        have h5 := ih (m / 128) (pos + 1) (u + c.toNat % 128 * 2 ^ sh) (sh + 7) t hk0 ht (by rw [g2]; exact h.2) (by omega) (by rw [Nat.pow_succ] at hm; omega)
        simp only [numL, g1, c1, if_false, h5]

theorem reads_num (most n : Nat) (h1 : n ≤ 2147483647) (h2 : n ≤ most) : Reads (fun b => num b most) (put n) n := by
  have h5 : n < 128 ^ 5 := by omega
  refine ⟨fun b pos r h _ => ?_, fun b pos t ht h hp => ?_⟩
  · have := numL_full b most pos 5 n pos 0 0 r (by omega) h h5 (by simpa using h1) (by simpa using h2) (.inr rfl)
    simpa [num] using this
  · exact numL_cut b most pos 5 n pos 0 0 t (by omega) ht h hp h5

theorem strOf_bytesOf (s : ByteArray) : strOfNums (bytesOf s) = s := by
  apply bytes_ext
  rw [Lib.toList_data, Lib.toList_data]
  simp only [strOfNums, bytesOf, List.map_map]
  conv => rhs; rw [← List.map_id s.data.toList]
  refine List.map_congr_left (fun u _ => ?_)
  simp only [Function.comp_apply, Int.toNat_natCast, id]
  exact UInt8.ofNat_toNat

theorem reads_text (s : ByteArray) (hs : s.size ≤ 2147483647) : Reads text (txt s) s := by
  have hn := reads_num 2147483647 s.size hs hs
  refine ⟨fun b pos r h hp => ?_, fun b pos t ht h hp => ?_⟩
  · unfold txt at h ⊢
    rw [List.append_assoc] at h
    unfold text
    have h1 := hn.full b pos _ h hp
    have hd : b.drop (pos + (put s.size).length) = bytesOf s ++ r := by rw [← List.drop_drop, h, List.drop_left]
    have hl : (b.drop (pos + (put s.size).length)).length = s.size + r.length := by rw [hd, List.length_append, bytesOf_length]
    rw [List.length_drop] at hl
    have h1' : num b 2147483647 pos = .ok s.size (pos + (put s.size).length) := h1
    rw [h1']
    have c : ¬ s.size > b.length - (pos + (put s.size).length) := by omega
    simp only [Out.bind, c, if_false, hd]
    rw [List.take_left' (bytesOf_length s), strOf_bytesOf, List.length_append, bytesOf_length, Nat.add_assoc]
  · unfold txt at h
    unfold text
    rcases List.append_eq_append_iff.1 h with ⟨u, h1, h2⟩ | ⟨u, h1, h2⟩
    · rcases Classical.em (u = []) with hu | hu
      · subst hu
        rw [List.append_nil] at h1
        have h3 : num b 2147483647 pos = .ok s.size (pos + (put s.size).length) := hn.full b pos [] (by rw [List.append_nil]; exact h1.symm) hp
        rw [h3]
        have hl : (b.drop pos).length = (put s.size).length := by rw [← h1]
        rw [List.length_drop] at hl
        have hb : (bytesOf s).length ≠ 0 := by
          rw [List.nil_append] at h2
          rw [← h2]
          intro e
          exact ht (List.eq_nil_of_length_eq_zero e)
        rw [bytesOf_length] at hb
        have c : s.size > b.length - (pos + (put s.size).length) := by omega
        simp only [Out.bind, c, if_true]
      · have h3 : num b 2147483647 pos = .er 210 b.length := hn.cut b pos u hu h1.symm hp
        rw [h3]; rfl
    · have h3 : num b 2147483647 pos = .ok s.size (pos + (put s.size).length) := hn.full b pos u h1 hp
      rw [h3]
      have hl : (b.drop pos).length = (put s.size ++ u).length := by rw [h1]
      rw [List.length_drop, List.length_append] at hl
      have hlu : u.length + t.length = s.size := by rw [← List.length_append, ← h2, bytesOf_length]
      have ht2 : t.length ≠ 0 := fun e => ht (List.eq_nil_of_length_eq_zero e)
      have c : s.size > b.length - (pos + (put s.size).length) := by omega
      simp only [Out.bind, c, if_true]

theorem reads_many {α : Type} {f : List Int → Nat → Out α} {w : α → List Int} : ∀ (l : List α), (∀ a ∈ l, Reads f (w a) a) → Reads (fun b => many (f b) l.length) (l.flatMap w) l
  | [], _ => by
    refine ⟨fun b pos r _ _ => ?_, fun b pos t ht h _ => ?_⟩
    · simp [many]
    · simp only [List.flatMap_nil] at h
      exact absurd (List.append_eq_nil_iff.1 h).2 ht
  | a :: l, h => by
    have h1 := h a (by simp)
    have h2 := reads_many l (fun x hx => h x (by simp [hx]))
    have h3 : Reads (fun b p => (many (f b) l.length p).bind fun m q => .ok (a :: m) q) (l.flatMap w ++ []) (a :: l) := reads_bind (g := fun m _ q => .ok (a :: m) q) h2 (reads_nil _)
    rw [List.append_nil] at h3
    have h4 := reads_bind (g := fun x b p => (many (f b) l.length p).bind fun m q => .ok (x :: m) q) h1 h3
    rw [List.flatMap_cons]
    exact h4

theorem reads_instr (x : S41) (hx : okI x = true) : Reads instr (ins x) x := by
  obtain ⟨o1, o2, r1, r2⟩ := okI_parts hx
  have q1 := right_range r1
  have q2 := right_range r2
  have hop : isOp x.f0 = true := by unfold isOp; simp [o1, o2]
  have hA : Reads (fun b p => if hasA x.f0 then num b 2147483647 p else .ok 0 p) (if hasA x.f0 then put x.f1.toNat else []) x.f1.toNat := by
    cases ha : hasA x.f0
    · have := right_zero r1 ha
      rw [this]
      exact reads_nil 0
    · exact reads_num _ _ (by omega) (by omega)
  have hB : Reads (fun b p => if hasB x.f0 then num b 2147483647 p else .ok 0 p) (if hasB x.f0 then put x.f2.toNat else []) x.f2.toNat := by
    cases hb : hasB x.f0
    · have := right_zero r2 hb
      rw [this]
      exact reads_nil 0
    · exact reads_num _ _ (by omega) (by omega)
  have hx3 : (⟨x.f0, (x.f1.toNat : Int), (x.f2.toNat : Int)⟩ : S41) = x := by
    have e1 : ((x.f1.toNat : Nat) : Int) = x.f1 := by omega
    have e2 : ((x.f2.toNat : Nat) : Int) = x.f2 := by omega
    rw [e1, e2]
  have h1 : Reads (fun b p => (if hasB x.f0 then num b 2147483647 p else .ok 0 p).bind fun y p => .ok (⟨x.f0, (x.f1.toNat : Int), (y : Int)⟩ : S41) p) ((if hasB x.f0 then put x.f2.toNat else []) ++ []) x := by
    have := reads_bind (g := fun (y : Nat) (_ : List Int) p => .ok (⟨x.f0, (x.f1.toNat : Int), (y : Int)⟩ : S41) p) hB (reads_nil _)
    rw [hx3] at this
    exact this
  rw [List.append_nil] at h1
  have h2 := reads_bind (g := fun (u : Nat) b p => (if hasB x.f0 then num b 2147483647 p else .ok 0 p).bind fun y p => .ok (⟨x.f0, (u : Int), (y : Int)⟩ : S41) p) hA h1
  have h3 := reads_bind (g := fun (op : Int) b p => (if hasA op then num b 2147483647 p else .ok 0 p).bind fun u p => (if hasB op then num b 2147483647 p else .ok 0 p).bind fun y p => .ok (⟨op, (u : Int), (y : Int)⟩ : S41) p) (reads_oct isOp x.f0 hop) h2
  exact h3

theorem reads_dec0 (kd st : Int) (ts : List ByteArray) (xs : List S41) (hm : may kd ts xs st = 0) (hs : ∀ s ∈ ts, s.size ≤ 2147483647) : Reads dec0 (enc kd ts xs st) ⟨kd, ts, xs, st⟩ := by
  obtain ⟨m1, m2, m3, m4, m5⟩ := may_zero hm
  have q := right_range m4
  have e1 : ((st.toNat : Nat) : Int) = st := by omega
  have h8 : Reads (fun b p => (many (instr b) xs.length p).bind fun ys p => .ok (⟨kd, ts, ys, st⟩ : Prog) p) (xs.flatMap ins ++ []) ⟨kd, ts, xs, st⟩ :=
    reads_bind (g := fun ys _ p => .ok (⟨kd, ts, ys, st⟩ : Prog) p) (reads_many xs (fun x hx => reads_instr x (m5 x hx))) (reads_nil _)
  have h7 := reads_bind (g := fun (m : Nat) b p => (many (instr b) m p).bind fun ys p => .ok (⟨kd, ts, ys, st⟩ : Prog) p) (reads_num 32768 xs.length (by omega) m1) h8
  have h6 := reads_bind (g := fun (us : List ByteArray) b p => (num b 32768 p).bind fun m p => (many (instr b) m p).bind fun ys p => .ok (⟨kd, us, ys, st⟩ : Prog) p) (reads_many (f := text) ts (fun s hss => reads_text s (hs s hss))) h7
  have h5 := reads_bind (g := fun (n : Nat) b p => (many (text b) n p).bind fun us p => (num b 32768 p).bind fun m p => (many (instr b) m p).bind fun ys p => .ok (⟨kd, us, ys, st⟩ : Prog) p) (reads_num 8192 ts.length (by omega) m2) h6
  have h4 : Reads (fun b p => (num b 2147483647 p).bind fun u p => (num b 8192 p).bind fun n p => (many (text b) n p).bind fun us p => (num b 32768 p).bind fun m p => (many (instr b) m p).bind fun ys p => .ok (⟨kd, us, ys, (u : Int)⟩ : Prog) p) (put st.toNat ++ (put ts.length ++ (ts.flatMap txt ++ (put xs.length ++ (xs.flatMap ins ++ []))))) ⟨kd, ts, xs, st⟩ := by
    refine reads_bind (g := fun (u : Nat) b p => (num b 8192 p).bind fun n p => (many (text b) n p).bind fun us p => (num b 32768 p).bind fun m p => (many (instr b) m p).bind fun ys p => .ok (⟨kd, us, ys, (u : Int)⟩ : Prog) p) (reads_num 2147483647 st.toNat (by omega) (by omega)) ?_
    rw [e1]
    exact h5
  have hk : isKind kd = true := by
    unfold isKind
    rcases m3 with h | h <;> simp [h]
  have h3 := reads_bind (g := fun (k : Int) b p => (num b 2147483647 p).bind fun u p => (num b 8192 p).bind fun n p => (many (text b) n p).bind fun us p => (num b 32768 p).bind fun m p => (many (instr b) m p).bind fun ys p => .ok (⟨k, us, ys, (u : Int)⟩ : Prog) p) (reads_oct isKind kd hk) h4
  have h2 := reads_bind (g := fun (_ : Int) b p => (oct b isKind p).bind fun k p => (num b 2147483647 p).bind fun u p => (num b 8192 p).bind fun n p => (many (text b) n p).bind fun us p => (num b 32768 p).bind fun m p => (many (instr b) m p).bind fun ys p => .ok (⟨k, us, ys, (u : Int)⟩ : Prog) p) (reads_oct (· == 80) 80 (by rfl)) h3
  have h1 := reads_bind (g := fun (_ : Int) b p => (oct b (· == 80) p).bind fun _ p => (oct b isKind p).bind fun k p => (num b 2147483647 p).bind fun u p => (num b 8192 p).bind fun n p => (many (text b) n p).bind fun us p => (num b 32768 p).bind fun m p => (many (instr b) m p).bind fun ys p => .ok (⟨k, us, ys, (u : Int)⟩ : Prog) p) (reads_oct (· == 86) 86 (by rfl)) h2
  have he : enc kd ts xs st = [86] ++ ([80] ++ ([kd] ++ (put st.toNat ++ (put ts.length ++ (ts.flatMap txt ++ (put xs.length ++ (xs.flatMap ins ++ []))))))) := by simp [enc, List.append_assoc]
  rw [he]
  exact h1

/-- What was written is read back. -/
theorem dec_enc (kd st : Int) (ts : List ByteArray) (xs : List S41) (hm : may kd ts xs st = 0) (hs : ∀ s ∈ ts, s.size ≤ 2147483647) : dec (enc kd ts xs st) = .ok ⟨kd, ts, xs, st⟩ (enc kd ts xs st).length := by
  have h := (reads_dec0 kd st ts xs hm hs).full (enc kd ts xs st) 0 [] (by simp) (by omega)
  unfold dec
  rw [h]
  simp [Out.bind]
/-- A shorter beginning ends at its end. -/
theorem dec_take (kd st : Int) (ts : List ByteArray) (xs : List S41) (hm : may kd ts xs st = 0) (hs : ∀ s ∈ ts, s.size ≤ 2147483647) (n : Nat) (hn : n < (enc kd ts xs st).length) : dec ((enc kd ts xs st).take n) = .er 210 n := by
  have h := (reads_dec0 kd st ts xs hm hs).cut ((enc kd ts xs st).take n) 0 ((enc kd ts xs st).drop n) (by
    intro e
    have := List.drop_eq_nil_iff.1 e
    omega) (by rw [List.drop_zero, List.take_append_drop]) (by omega)
  have hl : ((enc kd ts xs st).take n).length = n := by rw [List.length_take]; omega
  unfold dec
  rw [h, hl]
  rfl
/-- One byte more: it is refused behind the end. -/
theorem dec_more (kd st : Int) (ts : List ByteArray) (xs : List S41) (hm : may kd ts xs st = 0) (hs : ∀ s ∈ ts, s.size ≤ 2147483647) (c : Int) : dec (enc kd ts xs st ++ [c]) = .er 210 (enc kd ts xs st).length := by
  have h := (reads_dec0 kd st ts xs hm hs).full (enc kd ts xs st ++ [c]) 0 [c] (by simp) (by omega)
  unfold dec
  rw [h]
  simp [Out.bind]

/-! ### What is read was written so -/
theorem oct_ok {b : List Int} {p : Int → Bool} {pos q : Nat} {c : Int} (h : oct b p pos = .ok c q) : q = pos + 1 ∧ b.drop pos = c :: b.drop q ∧ p c = true ∧ pos < b.length := by
  unfold oct at h
  split at h
  · rename_i x hx
    split at h
    · rename_i hp
      injection h with h1 h2
      subst h1; subst h2
      obtain ⟨hl, hg⟩ := List.getElem?_eq_some_iff.1 hx
      exact ⟨rfl, by rw [List.drop_eq_getElem_cons hl, hg], hp, hl⟩
    · cases h
  · cases h

theorem numL_ok (b : List Int) (hb : ∀ c ∈ b, 0 ≤ c ∧ c ≤ 255) (most start : Nat) (k : Nat) : ∀ (pos u sh v q : Nat), numL b most start k pos u sh = .ok v q →
    ∃ m, v = u + m * 2 ^ sh ∧ b.drop pos = put m ++ b.drop q ∧ q = pos + (put m).length ∧ q ≤ b.length ∧ (m ≠ 0 ∨ sh = 0) ∧ v ≤ 2147483647 ∧ v ≤ most := by
  induction k with
  | zero => intro pos u sh v q h; cases h
  | succ k ih =>
    intro pos u sh v q h
    unfold numL at h
    split at h
    · cases h
    · rename_i c hc
      obtain ⟨hl, hg⟩ := List.getElem?_eq_some_iff.1 hc
      have hcb := hb c (by rw [← hg]; exact List.getElem_mem hl)
      have hd : b.drop pos = c :: b.drop (pos + 1) := by rw [List.drop_eq_getElem_cons hl, hg]
      split at h
      · rename_i c1
        dsimp only at h
        split at h
        · cases h
        · rename_i c2
          split at h
          · cases h
          · rename_i c3
            injection h with h1 h2
            subst h1; subst h2
            have e : c.toNat % 128 = c.toNat := by omega
            rw [e] at c2 c3 ⊢
            have hp : put c.toNat = [c] := by rw [put_small (by omega)]; congr 1; omega
            refine ⟨c.toNat, rfl, by rw [hp]; simpa using hd, by rw [hp]; rfl, by omega, ?_, by omega, by omega⟩
            rcases Nat.eq_zero_or_pos sh with h0 | h0
            · exact .inr h0
            · exact .inl (by omega)
      · rename_i c1
        obtain ⟨m, h1, h2, h3, h4, h5, h6, h7⟩ := ih _ _ _ _ _ h
        have hm0 : m ≠ 0 := by rcases h5 with h5 | h5; exact h5; omega
        have hlarge : ¬ (m * 128 + c.toNat % 128) < 128 := by omega
        have d1 : (m * 128 + c.toNat % 128) / 128 = m := by omega
        have d2 : (m * 128 + c.toNat % 128) % 128 = c.toNat % 128 := by omega
        have hp : put (m * 128 + c.toNat % 128) = c :: put m := by
          rw [put_large hlarge, d1, d2]
          congr 1
          omega
        refine ⟨m * 128 + c.toNat % 128, ?_, by rw [hp, hd, h2]; rfl, by rw [hp, h3, List.length_cons]; omega, h4, .inl (by omega), h6, h7⟩
        rw [h1, Nat.pow_add, Nat.add_assoc, Nat.add_mul]
        congr 1
        rw [Nat.add_comm, Nat.mul_assoc, Nat.mul_comm 128]

theorem num_ok {b : List Int} (hb : ∀ c ∈ b, 0 ≤ c ∧ c ≤ 255) {most pos v q : Nat} (h : num b most pos = .ok v q) : b.drop pos = put v ++ b.drop q ∧ q ≤ b.length ∧ pos ≤ b.length ∧ v ≤ 2147483647 ∧ v ≤ most ∧ q = pos + (put v).length := by
  obtain ⟨m, h1, h2, h3, h4, _, h6, h7⟩ := numL_ok b hb most pos 5 pos 0 0 v q h
  have : v = m := by rw [h1]; simp
  subst this
  exact ⟨h2, h4, by omega, h6, h7, h3⟩

theorem bytes_back {l : List Int} (hl : ∀ c ∈ l, 0 ≤ c ∧ c ≤ 255) : bytesOf (strOfNums l) = l := by
  simp only [strOfNums, bytesOf, List.map_map]
  conv => rhs; rw [← List.map_id l]
  refine List.map_congr_left (fun n hn => ?_)
  have := hl n hn
  simp only [Function.comp_apply, id, UInt8.toNat_ofNat']
  omega
theorem strOf_size (l : List Int) : (strOfNums l).size = l.length := by
  have : (strOfNums l).data.toList.length = l.length := by simp [strOfNums]
  rw [← this]
  exact (data_length _).symm

theorem text_ok {b : List Int} (hb : ∀ c ∈ b, 0 ≤ c ∧ c ≤ 255) {pos q : Nat} {s : ByteArray} (h : text b pos = .ok s q) : b.drop pos = txt s ++ b.drop q ∧ q ≤ b.length := by
  unfold text at h
  cases hn : num b 2147483647 pos with
  | er e fr => rw [hn] at h; cases h
  | ok n p =>
    rw [hn] at h
    simp only [Out.bind] at h
    split at h
    · cases h
    · rename_i c
      injection h with h1 h2
      subst h1; subst h2
      obtain ⟨g1, g2, _⟩ := num_ok hb hn
      have hl : ((b.drop p).take n).length = n := by rw [List.length_take, List.length_drop]; omega
      have hm : ∀ c ∈ (b.drop p).take n, 0 ≤ c ∧ c ≤ 255 := fun c hc => hb c (List.mem_of_mem_drop (List.mem_of_mem_take hc))
      refine ⟨?_, by omega⟩
      unfold txt
      rw [strOf_size, hl, bytes_back hm, g1, List.append_assoc, ← List.drop_drop, List.take_append_drop]

theorem many_ok {α : Type} {b : List Int} {f : Nat → Out α} {w : α → List Int} {P : α → Prop} (hf : ∀ {pos q : Nat} {a : α}, f pos = .ok a q → b.drop pos = w a ++ b.drop q ∧ q ≤ b.length ∧ P a) (n : Nat) : ∀ {pos q : Nat} {l : List α}, pos ≤ b.length → many f n pos = .ok l q → b.drop pos = l.flatMap w ++ b.drop q ∧ q ≤ b.length ∧ l.length = n ∧ ∀ a ∈ l, P a := by
  induction n with
  | zero =>
    intro pos q l hp h
    injection h with h1 h2
    subst h1; subst h2
    exact ⟨by simp, hp, rfl, by simp⟩
  | succ n ih =>
    intro pos q l hp h
    unfold many at h
    cases h1 : f pos with
    | er e fr => rw [h1] at h; cases h
    | ok a p =>
      rw [h1] at h
      simp only [Out.bind] at h
      cases h2 : many f n p with
      | er e fr => rw [h2] at h; cases h
      | ok m q2 =>
        rw [h2] at h
        injection h with h3 h4
        subst h3; subst h4
        obtain ⟨g1, g2, g3⟩ := hf h1
        obtain ⟨k1, k2, k3, k4⟩ := ih g2 h2
        refine ⟨by rw [g1, k1, List.flatMap_cons, List.append_assoc], k2, by rw [List.length_cons, k3], fun x hx => ?_⟩
        rcases List.mem_cons.1 hx with hx | hx
        · rw [hx]; exact g3
        · exact k4 x hx

theorem right_of {n : Nat} (h : n ≤ 2147483647) : right (n : Int) true = true := by
  unfold right
  simp only [Bool.or_eq_true, beq_iff_eq, Bool.and_eq_true, decide_eq_true_eq, true_and]
  omega

theorem instr_ok {b : List Int} (hb : ∀ c ∈ b, 0 ≤ c ∧ c ≤ 255) {pos q : Nat} {x : S41} (h : instr b pos = .ok x q) : b.drop pos = ins x ++ b.drop q ∧ q ≤ b.length ∧ okI x = true := by
  unfold instr at h
  cases h1 : oct b isOp pos with
  | er e fr => rw [h1] at h; cases h
  | ok op p =>
    rw [h1] at h
    simp only [Out.bind] at h
    obtain ⟨g1, g2, g3, g4⟩ := oct_ok h1
    have hop : 1 ≤ op ∧ op ≤ 38 := by unfold isOp at g3; simpa using g3
    cases h2 : (if hasA op then num b 2147483647 p else Out.ok 0 p) with
    | er e fr => rw [h2] at h; cases h
    | ok u p2 =>
      rw [h2] at h
      simp only [Out.bind] at h
      cases h3 : (if hasB op then num b 2147483647 p2 else Out.ok 0 p2) with
      | er e fr => rw [h3] at h; cases h
      | ok v p3 =>
        rw [h3] at h
        injection h with h4 h5
        subst h4; subst h5
        have hA : b.drop p = (if hasA op then put u else []) ++ b.drop p2 ∧ p2 ≤ b.length ∧ right (u : Int) (hasA op) = true := by
          cases ha : hasA op
          · rw [ha] at h2
            injection h2 with h6 h7
            subst h6; subst h7
            exact ⟨by simp, by omega, by simp [right]⟩
          · rw [ha] at h2
            obtain ⟨k1, k2, _, k4, _⟩ := num_ok hb h2
            exact ⟨k1, k2, right_of k4⟩
        have hB : b.drop p2 = (if hasB op then put v else []) ++ b.drop p3 ∧ p3 ≤ b.length ∧ right (v : Int) (hasB op) = true := by
          cases hb2 : hasB op
          · rw [hb2] at h3
            injection h3 with h6 h7
            subst h6; subst h7
            exact ⟨by simp, hA.2.1, by simp [right]⟩
          · rw [hb2] at h3
            obtain ⟨k1, k2, _, k4, _⟩ := num_ok hb h3
            exact ⟨k1, k2, right_of k4⟩
        refine ⟨?_, hB.2.1, ?_⟩
        · unfold ins
          rw [g2, hA.1, hB.1]
          simp [List.append_assoc]
        · unfold okI
          simp only [hA.2.2, hB.2.2, Bool.and_true, Bool.and_eq_true, decide_eq_true_eq]
          exact hop

/-- What is read is a program that may be written, and these are its bytes. -/
theorem dec_ok {b : List Int} (hb : ∀ c ∈ b, 0 ≤ c ∧ c ≤ 255) {r : Prog} {q : Nat} (h : dec b = .ok r q) : may r.kd r.ts r.xs r.st = 0 ∧ enc r.kd r.ts r.xs r.st = b := by
  unfold dec dec0 at h
  cases h1 : oct b (· == 86) 0 with
  | er e fr => rw [h1] at h; cases h
  | ok c1 p1 =>
  rw [h1] at h; simp only [Out.bind] at h
  obtain ⟨_, a1, b1, l1⟩ := oct_ok h1
  cases h2 : oct b (· == 80) p1 with
  | er e fr => rw [h2] at h; cases h
  | ok c2 p2 =>
  rw [h2] at h; simp only [Out.bind] at h
  obtain ⟨_, a2, b2, l2⟩ := oct_ok h2
  cases h3 : oct b isKind p2 with
  | er e fr => rw [h3] at h; cases h
  | ok kd p3 =>
  rw [h3] at h; simp only [Out.bind] at h
  obtain ⟨_, a3, b3, l3⟩ := oct_ok h3
  cases h4 : num b 2147483647 p3 with
  | er e fr => rw [h4] at h; cases h
  | ok st p4 =>
  rw [h4] at h; simp only [Out.bind] at h
  obtain ⟨a4, l4, _, b4, _⟩ := num_ok hb h4
  cases h5 : num b 8192 p4 with
  | er e fr => rw [h5] at h; cases h
  | ok n p5 =>
  rw [h5] at h; simp only [Out.bind] at h
  obtain ⟨a5, l5, _, _, b5, _⟩ := num_ok hb h5
  cases h6 : many (text b) n p5 with
  | er e fr => rw [h6] at h; cases h
  | ok ts p6 =>
  rw [h6] at h; simp only [Out.bind] at h
  obtain ⟨a6, l6, b6, _⟩ := many_ok (P := fun _ => True) (fun h => ⟨(text_ok hb h).1, (text_ok hb h).2, trivial⟩) n l5 h6
  cases h7 : num b 32768 p6 with
  | er e fr => rw [h7] at h; cases h
  | ok m p7 =>
  rw [h7] at h; simp only [Out.bind] at h
  obtain ⟨a7, l7, _, _, b7, _⟩ := num_ok hb h7
  cases h8 : many (instr b) m p7 with
  | er e fr => rw [h8] at h; cases h
  | ok xs p8 =>
  rw [h8] at h; simp only [Out.bind] at h
  obtain ⟨a8, l8, b8, c8⟩ := many_ok (P := fun x => okI x = true) (fun h => instr_ok hb h) m l7 h8
  split at h
  · cases h
  · rename_i hend
    injection h with h9 h10
    subst h9
    have hlast : b.drop p8 = [] := List.drop_eq_nil_iff.2 (by omega)
    have e1 : c1 = 86 := by simpa using b1
    have e2 : c2 = 80 := by simpa using b2
    have ek : kd = 1 ∨ kd = 2 := by unfold isKind at b3; simpa using b3
    have h0 : b = enc kd ts xs (st : Int) := by
      have : b = b.drop 0 := rfl
      rw [this, a1, a2, a3, a4, a5, a6, a7, a8, hlast, e1, e2]
      unfold enc
      rw [b6, b8, Int.toNat_natCast]
      simp [List.append_assoc]
    refine ⟨?_, h0.symm⟩
    unfold may
    have n1 : ¬ (xs.length > 32768 ∨ ts.length > 8192) := by omega
    have n2 : ¬ (¬ (kd = 1 ∨ kd = 2) ∨ right (st : Int) true = false ∨ xs.any (fun x => !okI x) = true) := by
      rintro (h | h | h)
      · exact h ek
      · rw [right_of b4] at h; cases h
      · obtain ⟨x, hx, hn⟩ := List.any_eq_true.1 h
        rw [c8 x hx] at hn
        cases hn
    simp only [n1, if_false, n2]

end Go.Proofs.Ytmhmappdohddeaa.CodeD
