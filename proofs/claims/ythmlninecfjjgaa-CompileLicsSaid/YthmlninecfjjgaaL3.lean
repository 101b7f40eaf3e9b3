/- Chapter 22: the program that is put together: its texts, its code, how high the stack comes. -/
import Derived.Test.YthmlninecfjjgaaL2
namespace Go.Proofs.Ythmlninecfjjgaa.AD
open Go.Proofs
set_option linter.unusedVariables false
set_option linter.unusedSimpArgs false
set_option maxRecDepth 100000

structure Ins where
  op : Int
  a : Int
  b : Int
def insP (x : Ins) : PV := .agg [.int .u8 x.op, .int .i64 x.a, .int .i64 x.b]

/-- By how much an instruction changes the height. -/
def effI (x : Ins) : Int :=
  if x.op = 1 ∨ x.op = 2 ∨ x.op = 3 ∨ x.op = 4 ∨ x.op = 24 ∨ x.op = 25 ∨ x.op = 34 ∨ x.op = 29 then 1
  else if x.op = 5 ∨ x.op = 6 ∨ x.op = 7 ∨ x.op = 9 ∨ x.op = 23 ∨ x.op = 32 ∨ x.op = 33 then 0
  else if x.op = 37 then IntKind.i64.wrap (1 - x.b) else -1

theorem effect_spec (x : Ins) : pureF Try.prog 81 [.p (insP x)] (.p (.int .i64 (effI x))) := by
  obtain ⟨o, a, b⟩ := x
  refine pureF_of f81_ok fun H => ?_
  have h : (o = 1 ∨ o = 2 ∨ o = 3 ∨ o = 4 ∨ o = 24 ∨ o = 25 ∨ o = 34 ∨ o = 29) ∨ (o = 5 ∨ o = 6 ∨ o = 7 ∨ o = 9 ∨ o = 23 ∨ o = 32 ∨ o = 33) ∨ o = 37 ∨ (o ≠ 1 ∧ o ≠ 2 ∧ o ≠ 3 ∧ o ≠ 4 ∧ o ≠ 24 ∧ o ≠ 25 ∧ o ≠ 34 ∧ o ≠ 29 ∧ o ≠ 5 ∧ o ≠ 6 ∧ o ≠ 7 ∧ o ≠ 9 ∧ o ≠ 23 ∧ o ≠ 32 ∧ o ≠ 33 ∧ o ≠ 37) := by omega
  rcases h with (rfl | rfl | rfl | rfl | rfl | rfl | rfl | rfl) | (rfl | rfl | rfl | rfl | rfl | rfl | rfl) | rfl | ⟨n1, n2, n3, n4, n24, n25, n34, n29, n5, n6, n7, n9, n23, n32, n33, n37⟩
  all_goals repeat' ((conv => whnf); first | refine splitB_t rfl ?_ | refine splitB_f rfl ?_ | (refine splitB_f (beq_eq_false_iff_ne.2 ?_) ?_; (first | exact n1 | exact n2 | exact n3 | exact n4 | exact n24 | exact n25 | exact n34 | exact n29 | exact n5 | exact n6 | exact n7 | exact n9 | exact n23 | exact n32 | exact n33 | exact n37)))
  all_goals (try (conv => whnf))
  all_goals exact ⟨by first | rfl | (simp [effI]; done) | (simp only [effI]; rw [if_neg (by omega), if_neg (by omega), if_neg (by omega)]), rfl⟩

/-- The state. -/
structure Bs where
  T : List ByteArray
  C : List Ins
  S : Int
  h : Int

def tP (T : List ByteArray) : List PV := T.map PV.str
def cP (C : List Ins) : List PV := C.map insP
def mP : Nat → List ByteArray → List (PV × PV)
  | _, [] => []
  | i, t :: r => (.str t, .int .i64 i) :: mP (i + 1) r
theorem tP_len (T : List ByteArray) : (tP T).length = T.length := by simp [tP]
theorem cP_len (C : List Ins) : (cP C).length = C.length := by simp [cP]

def bos (κ : Int) (b : Bs) : List Ob :=
  [.cells [.p (.int .u8 κ), .view (.b 1) b.T.length 1 b.T.length, .view (.b 2) b.C.length 3 b.C.length, .p (.int .i64 b.S), .mapr (.b 3), .p (.int .i64 b.h)],
   .buf b.T.length 1 (tP b.T), .buf b.C.length 3 (cP b.C), .map (mP 0 b.T)]

def putB (x : Ins) (b : Bs) : Bs :=
  { T := b.T, C := if b.C.length ≤ 32768 then b.C ++ [x] else b.C, S := if IntKind.i64.wrap (b.h + effI x) > b.S then IntKind.i64.wrap (b.h + effI x) else b.S, h := IntKind.i64.wrap (b.h + effI x) }

theorem put_spec (κ : Int) (b : Bs) (x : Ins) : Meth Try.prog 52 [.ref (.b 0) 0, .p (.list 3 [insP x])] (bos κ b) (.tup []) (bos κ (putB x b)) := by
  have hef := effect_spec x
  obtain ⟨o, xa, xb⟩ := x
  refine Meth.of f52_ok fun rest => ?_
  have hc := cP_len b.C
  (conv => whnf)
  intro R hR
  refine hR _ _ _ ?_
  (conv => whnf)
  refine splitB_t rfl ?_
  (conv => whnf)
  refine ⟨rfl, insP ⟨o, xa, xb⟩, ⟨by omega, rfl⟩, ?_⟩
  (conv => whnf)
  refine CallD.pureF hef rfl ?_
  (conv => whnf)
  refine ⟨rfl, ?_⟩
  (conv => whnf)
  refine splitB_dec (fun h => ?_) (fun h => ?_)
  · have h : b.C.length ≤ 32768 := by omega
    (conv => whnf)
    refine ⟨rfl, ?_⟩
    (conv => whnf)
    refine ⟨⟨rfl, rfl, rfl, by rw [hc]; exact Nat.le_refl _⟩, by simp [room]; omega, cP (b.C ++ [⟨o, xa, xb⟩]), by rw [← hc, List.take_length]; simp [cP, insP], ?_⟩
    (conv => whnf)
    refine hR _ _ _ ?_
    (conv => whnf)
    refine splitB_f rfl ?_
    (conv => whnf)
    refine ⟨rfl, ?_⟩
    have e : putB ⟨o, xa, xb⟩ b = { T := b.T, C := b.C ++ [⟨o, xa, xb⟩], S := if IntKind.i64.wrap (b.h + effI ⟨o, xa, xb⟩) > b.S then IntKind.i64.wrap (b.h + effI ⟨o, xa, xb⟩) else b.S, h := IntKind.i64.wrap (b.h + effI ⟨o, xa, xb⟩) } := by rw [putB, if_pos h]
    rw [e]
    simp only [bos, List.length_append]
    rfl
  · have h : ¬ b.C.length ≤ 32768 := by omega
    (conv => whnf)
    refine hR _ _ _ ?_
    (conv => whnf)
    refine splitB_f rfl ?_
    (conv => whnf)
    refine ⟨rfl, ?_⟩
    have e : putB ⟨o, xa, xb⟩ b = { T := b.T, C := b.C, S := if IntKind.i64.wrap (b.h + effI ⟨o, xa, xb⟩) > b.S then IntKind.i64.wrap (b.h + effI ⟨o, xa, xb⟩) else b.S, h := IntKind.i64.wrap (b.h + effI ⟨o, xa, xb⟩) } := by rw [putB, if_neg h]
    rw [e]
    rfl

theorem op_spec (κ : Int) (b : Bs) (o : Int) : Meth Try.prog 32 [.ref (.b 0) 0, .p (.int .u8 o)] (bos κ b) (.tup []) (bos κ (putB ⟨o, 0, 0⟩ b)) := by
  refine Meth.of f32_ok fun rest => ?_
  (conv => whnf)
  refine CallVC.same (put_spec κ b ⟨o, 0, 0⟩) rfl rfl rfl ?_
  exact ⟨rfl, rfl⟩

/-! ### a text's number -/
def tix (s : ByteArray) : List ByteArray → Option Nat
  | [] => none
  | t :: r => if s = t then some 0 else (tix s r).map (· + 1)
def namedB (op : Int) (s : ByteArray) (b : Bs) : Bs :=
  match tix s b.T with
  | some i => putB ⟨op, i, 0⟩ b
  | none => putB ⟨op, b.T.length, 0⟩ { b with T := b.T ++ [s] }

theorem tix_find (s : ByteArray) : ∀ (T : List ByteArray) (i : Nat), mfind none (.str s) (mP i T) = some ((tix s T).map fun k => .int .i64 (i + k : Nat)) := by
  intro T
  induction T with
  | nil => intro i; rfl
  | cons t r ih =>
    intro i
    simp only [mP, mfind, keyOk, sameKey, tix]
    by_cases h : s = t
    · subst h; simp
    · rw [decide_eq_false h, if_neg h]
      simp only [ih]
      cases tix s r with
      | none => rfl
      | some k => simp; omega
theorem tix_put (s : ByteArray) : ∀ (T : List ByteArray) (i : Nat), tix s T = none → mput none (.str s) (.int .i64 (i + T.length : Nat)) (mP i T) = some (mP i (T ++ [s])) := by
  intro T
  induction T with
  | nil => intro i _; rfl
  | cons t r ih =>
    intro i h
    simp only [tix] at h
    by_cases h2 : s = t
    · rw [if_pos h2] at h; cases h
    · rw [if_neg h2] at h
      have h3 : tix s r = none := by cases h4 : tix s r with | none => rfl | some k => rw [h4] at h; cases h
      simp only [mP, mput, keyOk, sameKey, List.cons_append]
      rw [decide_eq_false h2]
      have := ih (i + 1) h3
      have e : i + 1 + r.length = i + (t :: r).length := by simp; omega
      rw [e] at this
      simp only [this]
      rfl

theorem named_spec (κ : Int) (b : Bs) (o : Int) (s : ByteArray) (hT : b.T.length ≤ 1000000) : Meth Try.prog 51 [.ref (.b 0) 0, .p (.int .u8 o), .p (.str s)] (bos κ b) (.tup []) (bos κ (namedB o s b)) := by
  refine Meth.of f51_ok fun rest => ?_
  have hf := tix_find s b.T 0
  have ht := tP_len b.T
  rw [namedB]
  cases hi : tix s b.T with
  | some i =>
    rw [hi] at hf
    simp only [Option.map_some, Nat.zero_add] at hf
    (conv => whnf)
    refine ⟨rfl, ?_⟩
    (conv => whnf)
    refine ⟨_, hf, ?_⟩
    (conv => whnf)
    refine splitB_f rfl ?_
    (conv => whnf)
    refine CallVC.same (put_spec κ b ⟨o, i, 0⟩) rfl rfl rfl ?_
    exact ⟨rfl, rfl⟩
  | none =>
    have hp := tix_put s b.T 0 hi
    rw [hi] at hf
    rw [Nat.zero_add] at hp
    (conv => whnf)
    refine ⟨rfl, ?_⟩
    (conv => whnf)
    refine ⟨_, hf, ?_⟩
    (conv => whnf)
    refine splitB_t rfl ?_
    (conv => whnf)
    refine ⟨rfl, ?_⟩
    (conv => whnf)
    refine ⟨rfl, ?_⟩
    (conv => whnf)
    refine ⟨_, hp, ?_⟩
    (conv => whnf)
    refine ⟨rfl, ?_⟩
    (conv => whnf)
    refine ⟨⟨rfl, rfl, rfl, by rw [ht]; exact Nat.le_refl _⟩, by simp [room]; omega, tP (b.T ++ [s]), by rw [← ht, List.take_length]; simp [tP], ?_⟩
    (conv => whnf)
    have hs := put_spec κ { b with T := b.T ++ [s] } ⟨o, b.T.length, 0⟩
    have e : bos κ { b with T := b.T ++ [s] } = [.cells [.p (.int .u8 κ), .view (.b 1) (b.T.length + 1) 1 (b.T.length + 1), .view (.b 2) b.C.length 3 b.C.length, .p (.int .i64 b.S), .mapr (.b 3), .p (.int .i64 b.h)],
        .buf (b.T.length + 1) 1 (tP (b.T ++ [s])), .buf b.C.length 3 (cP b.C), .map (mP 0 (b.T ++ [s]))] := by simp only [bos, List.length_append]; rfl
    rw [e] at hs
    refine CallVC.same hs rfl rfl rfl ?_
    exact ⟨rfl, rfl⟩

/-! ### licensees -/
mutual
def licB : Li → Bs → Bs
  | .mk o t k xs, b => if o = 1 then namedB 34 t b else
      (if o = 2 then putB ⟨35, 0, 0⟩ else if o = 3 then putB ⟨36, 0, 0⟩ else putB ⟨37, k, xs.length⟩) (licsB xs b)
def licsB : List Li → Bs → Bs
  | [], b => b
  | a :: r, b => licsB r (licB a b)
end

theorem putB_T (x : Ins) (b : Bs) : (putB x b).T = b.T := rfl
theorem namedB_T (o : Int) (s : ByteArray) (b : Bs) : (namedB o s b).T.length ≤ b.T.length + 1 := by
  rw [namedB]
  split
  · rw [putB_T]; omega
  · rw [putB_T]; simp
theorem lcnt_pos : ∀ e, 1 ≤ lcnt e := by
    intro e
    induction e using Li.ind with
    | h o t k xs ih =>
      have : ∀ l : List Li, (∀ a, a ∈ l → 1 ≤ lcnt a) → 0 ≤ lcnts l := by
        intro l
        induction l with
        | nil => intro _; simp [lcnts]
        | cons a r ihr => intro h; have := h a (by simp); have := ihr (fun c hc => h c (by simp [hc])); simp only [lcnts]; omega
      have := this xs ih
      simp only [lcnt]
      omega
theorem lcnts_pos : ∀ l, 0 ≤ lcnts l := by
    intro l
    induction l with
    | nil => simp [lcnts]
    | cons a r ihr => have := lcnt_pos a; simp only [lcnts]; omega
theorem licB_T : (∀ e b, ((licB e b).T.length : Int) ≤ b.T.length + lcnt e) ∧ ∀ l b, ((licsB l b).T.length : Int) ≤ b.T.length + lcnts l := by
  have main : ∀ l : List Li, (∀ a, a ∈ l → ∀ b, ((licB a b).T.length : Int) ≤ b.T.length + lcnt a) → ∀ b, ((licsB l b).T.length : Int) ≤ b.T.length + lcnts l := by
    intro l
    induction l with
    | nil => intro _ b; simp [licsB, lcnts]
    | cons a r ih =>
      intro h b
      have h1 := h a (by simp) b
      have h2 := ih (fun c hc => h c (by simp [hc])) (licB a b)
      simp only [licsB, lcnts]
      omega
  have one : ∀ e b, ((licB e b).T.length : Int) ≤ b.T.length + lcnt e := by
    intro e
    induction e using Li.ind with
    | h o t k xs ih =>
      intro b
      have h1 := main xs ih b
      have h2 := namedB_T 34 t b
      have h3 := lcnts_pos xs
      simp only [licB, lcnt]
      (repeat' split) <;> first | omega | (simp only [putB_T]; omega)
  exact ⟨one, fun l => main l fun a _ => one a⟩

theorem lic_spec (κ : Int) (e : Li) : ∀ b : Bs, FitsL e → (b.T.length : Int) + lcnt e ≤ 1000000 → Meth Try.prog 31 [.ref (.b 0) 0, .p (encL e)] (bos κ b) (.tup []) (bos κ (licB e b)) := by
  induction e using Li.ind with
  | h o t k xs ih =>
    intro b hfit hT
    cases hfit with
    | mk _ _ _ _ ho hk1 hk2 ht hx hxs =>
    have he := encLs_len xs
    refine Meth.of f31_ok fun rest => ?_
    (conv => whnf)
    refine splitB_eq (fun h1 => ?_) (fun h1 => ?_)
    · subst h1
      (conv => whnf)
      refine CallVC.same (named_spec κ b 34 t (by have := lcnt_pos (.mk 1 t k xs); omega)) rfl rfl rfl ?_
      exact ⟨rfl, rfl⟩
    · (conv => whnf)
      intro R hR
      have hT2 : (b.T.length : Int) + lcnts xs < 1000000 := by simp only [lcnt] at hT; omega
      have key : ∀ (l : List Li) (i : Nat) (b1 : Bs), xs.drop i = l → (b1.T.length : Int) + lcnts l < 1000000 → licsB l b1 = licsB xs b → R [(0, .ref (.b 0) 0), (3, .ref (.l 0) 0), (14, .p (.list 4 (encLs xs))), (15, .p (.int .i64 (encLs xs).length)), (16, .p (.int .i64 i))] (bos κ b1 ++ rest)
          [.cells [.p (.int .u8 o), .p (.str t), .p (.int .i64 k), .p (.list 4 (encLs xs))]] := by
        intro l
        induction l with
        | nil =>
          intro i b1 hd hb hq
          have hl := drop_nil hd
          have hdef : licB (.mk o t k xs) b = (if o = 2 then putB ⟨35, 0, 0⟩ else if o = 3 then putB ⟨36, 0, 0⟩ else putB ⟨37, k, xs.length⟩) b1 := by
            simp only [licB, if_neg h1]
            rw [← hq]
            rfl
          refine hR _ _ _ ?_
          (conv => whnf)
          refine splitB_f (decide_eq_false (by omega)) ?_
          (conv => whnf)
          refine splitB_eq (fun h2 => ?_) (fun h2 => ?_)
          · subst h2
            (conv => whnf)
            refine CallVC.same (op_spec κ b1 35) rfl rfl rfl ?_
            exact ⟨rfl, by rw [hdef]; rfl⟩
          · (conv => whnf)
            refine splitB_eq (fun h3 => ?_) (fun h3 => ?_)
            · subst h3
              (conv => whnf)
              refine CallVC.same (op_spec κ b1 36) rfl rfl rfl ?_
              exact ⟨rfl, by rw [hdef]; rfl⟩
            · (conv => whnf)
              rw [he]
              refine CallVC.same (put_spec κ b1 ⟨37, k, xs.length⟩) rfl rfl rfl ?_
              exact ⟨rfl, by rw [hdef, if_neg h2, if_neg h3]⟩
        | cons a l ihr =>
          intro i b1 hd hb hq
          obtain ⟨hg, hd', hi⟩ := drop_cons hd
          have hfa := hxs a (List.mem_of_getElem? hg)
          have hp := lcnts_pos l
          have hbt := licB_T.1 a b1
          simp only [lcnts] at hb
          have iha := ih a (List.mem_of_getElem? hg) b1 hfa (by omega)
          refine hR _ _ _ ?_
          (conv => whnf)
          refine splitB_t (decide_eq_true (by omega)) ?_
          (conv => whnf)
          obtain ⟨o', t', k', xs'⟩ := a
          refine ⟨rfl, encL (.mk o' t' k' xs'), ⟨by omega, encLs_get hg⟩, ?_⟩
          (conv => whnf)
          refine CallVC.same iha rfl rfl rfl ?_
          (conv => whnf)
          rw [IntWalk.i64_in _ (by omega)]
          exact ihr (i + 1) _ hd' (by omega) hq
      exact key xs 0 b rfl hT2 rfl

end Go.Proofs.Ythmlninecfjjgaa.AD
