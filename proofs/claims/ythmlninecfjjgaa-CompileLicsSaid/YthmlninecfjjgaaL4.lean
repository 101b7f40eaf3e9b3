/- Chapter 22: the document's writer of programs. -/
import Derived.Test.YthmlninecfjjgaaL3
namespace Go.Proofs.Ythmlninecfjjgaa.AD
open Go.Proofs
set_option linter.unusedVariables false
set_option linter.unusedSimpArgs false
set_option maxRecDepth 100000

theorem Height_spec (x : Ins) (h1 : 1 ≤ x.op) (h2 : x.op ≤ 38) : pureF Try.prog 49 [.p (insP x)] (.p (.int .i64 (effI x))) := by
  obtain ⟨o, a, b⟩ := x
  have hall : o = 1 ∨ o = 2 ∨ o = 3 ∨ o = 4 ∨ o = 5 ∨ o = 6 ∨ o = 7 ∨ o = 8 ∨ o = 9 ∨ o = 10 ∨ o = 11 ∨ o = 12 ∨ o = 13 ∨ o = 14 ∨ o = 15 ∨ o = 16 ∨ o = 17 ∨ o = 18 ∨ o = 19 ∨ o = 20 ∨ o = 21 ∨ o = 22 ∨ o = 23 ∨ o = 24 ∨ o = 25 ∨ o = 26 ∨ o = 27 ∨ o = 28 ∨ o = 29 ∨ o = 30 ∨ o = 31 ∨ o = 32 ∨ o = 33 ∨ o = 34 ∨ o = 35 ∨ o = 36 ∨ o = 37 ∨ o = 38 := by
    have h1 : 1 ≤ o := h1
    have h2 : o ≤ 38 := h2
    omega
  clear h1 h2
  refine pureF_of f49_ok fun H => ?_
  rcases hall with rfl | rfl | rfl | rfl | rfl | rfl | rfl | rfl | rfl | rfl | rfl | rfl | rfl | rfl | rfl | rfl | rfl | rfl | rfl | rfl | rfl | rfl | rfl | rfl | rfl | rfl | rfl | rfl | rfl | rfl | rfl | rfl | rfl | rfl | rfl | rfl | rfl | rfl
  all_goals repeat' ((conv => whnf); first | refine splitB_t rfl ?_ | refine splitB_f rfl ?_)
  all_goals (try (conv => whnf))
  all_goals exact ⟨rfl, rfl⟩

structure Ws where
  T : List ByteArray
  C : List Ins
  S : Int
  h : Int
  o : Bool

def wos (κ : Int) (w : Ws) : List Ob :=
  [.cells [.p (.int .u8 κ), .view (.b 1) w.T.length 1 w.T.length, .view (.b 2) w.C.length 3 w.C.length, .p (.int .i64 w.S), .p (.int .i64 w.h), .p (.bool w.o)],
   .buf w.T.length 1 (tP w.T), .buf w.C.length 3 (cP w.C)]

def putW (x : Ins) (w : Ws) : Ws :=
  if w.o = true ∨ 32768 < w.C.length then { w with o := true } else
  { T := w.T, C := w.C ++ [x], S := if IntKind.i64.wrap (w.h + effI x) > w.S then IntKind.i64.wrap (w.h + effI x) else w.S, h := IntKind.i64.wrap (w.h + effI x), o := w.o }
def putN (w : Ws) : Int := if w.o = true ∨ 32768 < w.C.length then 0 else w.C.length

theorem refput_spec (κ : Int) (w : Ws) (x : Ins) (h1 : 1 ≤ x.op) (h2 : x.op ≤ 38) : Meth Try.prog 28 [.ref (.b 0) 0, .p (.int .u8 x.op), .p (.int .i64 x.a), .p (.int .i64 x.b)] (wos κ w) (.int .i64 (putN w)) (wos κ (putW x w)) := by
  have hef := Height_spec x h1 h2
  obtain ⟨o, xa, xb⟩ := x
  refine Meth.of f28_ok fun rest => ?_
  have hc := cP_len w.C
  have over : (w.o = true ∨ 32768 < w.C.length) → (putN w = 0 ∧ putW ⟨o, xa, xb⟩ w = { w with o := true }) := fun h => ⟨by rw [putN, if_pos h], by rw [putW, if_pos h]⟩
  (conv => whnf)
  refine splitB_intro (fun hov => ?_) (fun hov => ?_)
  · obtain ⟨g1, g2⟩ := over (.inl hov)
    (conv => whnf)
    refine splitB_t rfl ?_
    exact ⟨by rw [g1], by rw [g2]; rfl⟩
  · (conv => whnf)
    refine ⟨rfl, ?_⟩
    (conv => whnf)
    refine splitB_dec (fun h => ?_) (fun h => ?_)
    · obtain ⟨g1, g2⟩ := over (.inr (by omega))
      exact ⟨by rw [g1], by rw [g2]; rfl⟩
    · have hn : ¬ (w.o = true ∨ 32768 < w.C.length) := by rw [hov]; simp; omega
      have g1 : putN w = w.C.length := by rw [putN, if_neg hn]
      have g2 : putW ⟨o, xa, xb⟩ w = { T := w.T, C := w.C ++ [⟨o, xa, xb⟩], S := if IntKind.i64.wrap (w.h + effI ⟨o, xa, xb⟩) > w.S then IntKind.i64.wrap (w.h + effI ⟨o, xa, xb⟩) else w.S, h := IntKind.i64.wrap (w.h + effI ⟨o, xa, xb⟩), o := w.o } := by rw [putW, if_neg hn]
      rw [g1, g2]
      (conv => whnf)
      refine ⟨rfl, ?_⟩
      (conv => whnf)
      refine ⟨⟨rfl, rfl, rfl, by rw [hc]; exact Nat.le_refl _⟩, by simp [room]; omega, cP (w.C ++ [⟨o, xa, xb⟩]), by rw [← hc, List.take_length]; simp [cP, insP], ?_⟩
      (conv => whnf)
      refine CallD.pureF hef rfl ?_
      (conv => whnf)
      refine ⟨rfl, ?_⟩
      (conv => whnf)
      refine ⟨?_, ?_⟩
      · rw [IntWalk.i64_in _ (by simp; omega)]
        simp
      · simp only [wos, List.length_append]
        rfl

def namedW (op : Int) (s : ByteArray) (w : Ws) : Ws :=
  if w.o = true then w else
  match tix s w.T with
  | some i => putW ⟨op, i, 0⟩ w
  | none => if 8192 < w.T.length then { w with o := true } else putW ⟨op, w.T.length, 0⟩ { w with T := w.T ++ [s] }

theorem tix_drop (s : ByteArray) : ∀ (T : List ByteArray) (i : Nat) (r : List ByteArray), T.drop i = r → (∀ k, k < i → T[k]? ≠ some s) → tix s T = (tix s r).map (· + i) := by
  intro T
  induction T with
  | nil => intro i r hd _; simp at hd; subst hd; rfl
  | cons t T ih =>
    intro i r hd hn
    cases i with
    | zero => simp at hd; subst hd; cases tix s (t :: T) <;> rfl
    | succ i =>
      have h1 := hn 0 (by omega)
      have h2 := ih i r (by simpa using hd) fun k hk => by have := hn (k + 1) (by omega); simpa using this
      have h3 : ¬ s = t := fun e => h1 (by rw [e]; rfl)
      simp only [tix, if_neg h3, h2]
      cases tix s r <;> simp
      omega

theorem refnamed_spec (κ : Int) (w : Ws) (o : Int) (s : ByteArray) (h1 : 1 ≤ o) (h2 : o ≤ 38) (hT : w.T.length ≤ 1000000) : Meth Try.prog 48 [.ref (.b 0) 0, .p (.int .u8 o), .p (.str s)] (wos κ w) (.tup []) (wos κ (namedW o s w)) := by
  refine Meth.of f48_ok fun rest => ?_
  have ht := tP_len w.T
  (conv => whnf)
  refine splitB_intro (fun hov => ?_) (fun hov => ?_)
  · exact ⟨rfl, by rw [namedW, if_pos hov]⟩
  · have hov2 : ¬ w.o = true := by rw [hov]; simp
    (conv => whnf)
    intro R hR
    have key : ∀ (l : List ByteArray) (i : Nat), w.T.drop i = l → (∀ k, k < i → w.T[k]? ≠ some s) → R [(0, .ref (.b 0) 0), (1, .p (.int .u8 o)), (2, .p (.str s)), (6, .p (.int .i64 i))] (wos κ w ++ rest) [] := by
      intro l
      induction l with
      | nil =>
        intro i hd hn
        have hl := drop_nil hd
        have hno : tix s w.T = none := by rw [tix_drop s w.T i [] hd hn]; rfl
        have hdef : namedW o s w = if 8192 < w.T.length then { w with o := true } else putW ⟨o, w.T.length, 0⟩ { w with T := w.T ++ [s] } := by rw [namedW, if_neg hov2, hno]
        refine hR _ _ _ ?_
        (conv => whnf)
        refine ⟨rfl, ?_⟩
        (conv => whnf)
        refine splitB_f (decide_eq_false (by omega)) ?_
        (conv => whnf)
        refine ⟨rfl, ?_⟩
        (conv => whnf)
        refine splitB_dec (fun h => ?_) (fun h => ?_)
        · exact ⟨rfl, by rw [hdef, if_pos (by omega)]; rfl⟩
        · (conv => whnf)
          refine ⟨rfl, ?_⟩
          (conv => whnf)
          refine ⟨⟨rfl, rfl, rfl, by rw [ht]; exact Nat.le_refl _⟩, by simp [room]; omega, tP (w.T ++ [s]), by rw [← ht, List.take_length]; simp [tP], ?_⟩
          (conv => whnf)
          refine ⟨rfl, ?_⟩
          (conv => whnf)
          have hs := refput_spec κ { w with T := w.T ++ [s] } ⟨o, w.T.length, 0⟩ h1 h2
          have e : wos κ { w with T := w.T ++ [s] } = [.cells [.p (.int .u8 κ), .view (.b 1) (w.T.length + 1) 1 (w.T.length + 1), .view (.b 2) w.C.length 3 w.C.length, .p (.int .i64 w.S), .p (.int .i64 w.h), .p (.bool w.o)],
              .buf (w.T.length + 1) 1 (tP (w.T ++ [s])), .buf w.C.length 3 (cP w.C)] := by simp only [wos, List.length_append]; rfl
          rw [e] at hs
          have ew : IntKind.i64.wrap (((w.T.length + [PV.str s].length : Nat) : Int) - 1) = w.T.length := by rw [IntWalk.i64_in _ (by simp; omega)]; simp
          rw [ew]
          refine CallVC.same hs rfl rfl rfl ?_
          exact ⟨rfl, by rw [hdef, if_neg (by omega)]⟩
      | cons t l ihr =>
        intro i hd hn
        obtain ⟨hg, hd', hi⟩ := drop_cons hd
        refine hR _ _ _ ?_
        (conv => whnf)
        refine ⟨rfl, ?_⟩
        (conv => whnf)
        refine splitB_t (decide_eq_true (by omega)) ?_
        (conv => whnf)
        refine ⟨⟨rfl, by omega, by omega⟩, ?_⟩
        (conv => whnf)
        refine ⟨rfl, ?_⟩
        (conv => whnf)
        refine ⟨⟨rfl, rfl⟩, .str t, by rw [Int.toNat_natCast, tP, List.getElem?_map, hg]; rfl, ?_⟩
        (conv => whnf)
        refine splitB_eq (fun h => ?_) (fun h => ?_)
        · have hst : t = s := by
            have := ba_ext.1 h
            cases t; cases s
            simp at this
            exact congrArg _ this
          subst hst
          have hyes : tix t w.T = some i := by rw [tix_drop t w.T i _ hd hn]; simp [tix]
          (conv => whnf)
          refine CallVC.same (refput_spec κ w ⟨o, i, 0⟩ h1 h2) rfl rfl rfl ?_
          exact ⟨rfl, by rw [namedW, if_neg hov2, hyes]⟩
        · (conv => whnf)
          rw [IntWalk.i64_in _ (by omega)]
          refine ihr (i + 1) hd' fun k hk => ?_
          rcases Nat.lt_or_ge k i with hk2 | hk2
          · exact hn k hk2
          · have : k = i := by omega
            subst this
            rw [hg]
            intro e
            cases e
            exact h rfl
    exact key w.T 0 rfl fun k hk => by omega

/-! ### licensees -/
mutual
def licW : Li → Ws → Ws
  | .mk o t k xs, w => if o = 1 then namedW 34 t w else
      (if o = 2 then putW ⟨35, 0, 0⟩ else if o = 3 then putW ⟨36, 0, 0⟩ else if o = 4 then putW ⟨37, k, xs.length⟩ else id) (licsW xs w)
def licsW : List Li → Ws → Ws
  | [], w => w
  | a :: r, w => if w.o = true then w else licsW r (licW a w)
end

theorem putW_T (x : Ins) (w : Ws) : (putW x w).T = w.T := by rw [putW]; split <;> rfl
theorem namedW_T (o : Int) (s : ByteArray) (w : Ws) : (namedW o s w).T.length ≤ w.T.length + 1 := by
  rw [namedW]
  split
  · omega
  · split
    · rw [putW_T]; omega
    · split
      · simp
      · rw [putW_T]; simp
theorem licW_T : (∀ e w, ((licW e w).T.length : Int) ≤ w.T.length + lcnt e) ∧ ∀ l w, ((licsW l w).T.length : Int) ≤ w.T.length + lcnts l := by
  have main : ∀ l : List Li, (∀ a, a ∈ l → ∀ w, ((licW a w).T.length : Int) ≤ w.T.length + lcnt a) → ∀ w, ((licsW l w).T.length : Int) ≤ w.T.length + lcnts l := by
    intro l
    induction l with
    | nil => intro _ w; simp [licsW, lcnts]
    | cons a r ih =>
      intro h w
      have h1 := h a (by simp) w
      have h2 := ih (fun c hc => h c (by simp [hc])) (licW a w)
      have h3 := lcnt_pos a
      have h4 := lcnts_pos r
      simp only [licsW, lcnts]
      split <;> omega
  have one : ∀ e w, ((licW e w).T.length : Int) ≤ w.T.length + lcnt e := by
    intro e
    induction e using Li.ind with
    | h o t k xs ih =>
      intro w
      have h1 := main xs ih w
      have h2 := namedW_T 34 t w
      have h3 := lcnts_pos xs
      simp only [licW, lcnt]
      (repeat' split) <;> first | omega | (simp only [putW_T]; omega) | (simp only [id]; omega)
  exact ⟨one, fun l => main l fun a _ => one a⟩

theorem reflic_spec (κ : Int) (e : Li) : ∀ w : Ws, FitsL e → (w.T.length : Int) + lcnt e ≤ 1000000 → Meth Try.prog 27 [.ref (.b 0) 0, .p (encL e)] (wos κ w) (.tup []) (wos κ (licW e w)) := by
  induction e using Li.ind with
  | h o t k xs ih =>
    intro w hfit hT
    cases hfit with
    | mk _ _ _ _ ho hk1 hk2 ht hx hxs =>
    have he := encLs_len xs
    refine Meth.of f27_ok fun rest => ?_
    (conv => whnf)
    refine splitB_eq (fun h1 => ?_) (fun h1 => ?_)
    · subst h1
      (conv => whnf)
      refine CallVC.same (refnamed_spec κ w 34 t (by omega) (by omega) (by have := lcnt_pos (.mk 1 t k xs); omega)) rfl rfl rfl ?_
      exact ⟨rfl, rfl⟩
    · (conv => whnf)
      intro R hR
      have hT2 : (w.T.length : Int) + lcnts xs < 1000000 := by simp only [lcnt] at hT; omega
      have last : ∀ w1 : Ws, w1 = licsW xs w → W Try.prog f27.c29 [(0, .ref (.b 0) 0), (3, .ref (.l 0) 0)] (wos κ w1 ++ rest) [.cells [.p (.int .u8 o), .p (.str t), .p (.int .i64 k), .p (.list 4 (encLs xs))]] (endQ f27 fun r' H' => r' = .p (.tup []) ∧ H' = wos κ (licW (.mk o t k xs) w) ++ rest) := by
        intro w1 hw
        have hdef : licW (.mk o t k xs) w = (if o = 2 then putW ⟨35, 0, 0⟩ else if o = 3 then putW ⟨36, 0, 0⟩ else if o = 4 then putW ⟨37, k, xs.length⟩ else id) w1 := by
          simp only [licW, if_neg h1]
          rw [hw]
        (conv => whnf)
        refine splitB_eq (fun h2 => ?_) (fun h2 => ?_)
        · subst h2
          (conv => whnf)
          refine CallVC.same (refput_spec κ w1 ⟨35, 0, 0⟩ (by simp) (by simp)) rfl rfl rfl ?_
          exact ⟨rfl, by rw [hdef]; rfl⟩
        · (conv => whnf)
          refine splitB_eq (fun h3 => ?_) (fun h3 => ?_)
          · subst h3
            (conv => whnf)
            refine CallVC.same (refput_spec κ w1 ⟨36, 0, 0⟩ (by simp) (by simp)) rfl rfl rfl ?_
            exact ⟨rfl, by rw [hdef]; rfl⟩
          · (conv => whnf)
            refine splitB_eq (fun h4 => ?_) (fun h4 => ?_)
            · subst h4
              (conv => whnf)
              rw [he]
              refine CallVC.same (refput_spec κ w1 ⟨37, k, xs.length⟩ (by simp) (by simp)) rfl rfl rfl ?_
              exact ⟨rfl, by rw [hdef]; rfl⟩
            · exact ⟨rfl, by rw [hdef, if_neg h2, if_neg h3, if_neg h4]; rfl⟩
      have key : ∀ (l : List Li) (i : Nat) (w1 : Ws), xs.drop i = l → (w1.T.length : Int) + lcnts l < 1000000 → licsW l w1 = licsW xs w → R [(0, .ref (.b 0) 0), (3, .ref (.l 0) 0), (4, .p (.int .i64 i))] (wos κ w1 ++ rest)
          [.cells [.p (.int .u8 o), .p (.str t), .p (.int .i64 k), .p (.list 4 (encLs xs))]] := by
        intro l
        induction l with
        | nil =>
          intro i w1 hd hb hq
          have hl := drop_nil hd
          refine hR _ _ _ ?_
          (conv => whnf)
          refine splitB_f (decide_eq_false (by omega)) ?_
          (conv => whnf)
          refine splitB_f rfl ?_
          have q := last w1 (by rw [← hq]; rfl)
          (conv at q => whnf)
          (conv => whnf)
          exact q
        | cons a l ihr =>
          intro i w1 hd hb hq
          obtain ⟨hg, hd', hi⟩ := drop_cons hd
          have hfa := hxs a (List.mem_of_getElem? hg)
          have hp := lcnts_pos l
          have hbt := licW_T.1 a w1
          simp only [lcnts] at hb
          have iha := ih a (List.mem_of_getElem? hg) w1 hfa (by omega)
          refine hR _ _ _ ?_
          (conv => whnf)
          refine splitB_t (decide_eq_true (by omega)) ?_
          (conv => whnf)
          refine splitB_intro (fun hov => ?_) (fun hov => ?_)
          · have hov : w1.o = false := by simpa using hov
            have hnov : ¬ w1.o = true := by rw [hov]; simp
            (conv => whnf)
            obtain ⟨o', t', k', xs'⟩ := a
            refine ⟨rfl, encL (.mk o' t' k' xs'), ⟨by omega, encLs_get hg⟩, ?_⟩
            (conv => whnf)
            refine CallVC.same iha rfl rfl rfl ?_
            (conv => whnf)
            rw [IntWalk.i64_in _ (by omega)]
            exact ihr (i + 1) _ hd' (by omega) (by rw [← hq]; simp only [licsW, if_neg hnov])
          · have hov : w1.o = true := by simpa using hov
            have q := last w1 (by rw [← hq]; simp only [licsW, if_pos hov])
            (conv at q => whnf)
            (conv => whnf)
            exact q
      exact key xs 0 w rfl hT2 rfl

end Go.Proofs.Ythmlninecfjjgaa.AD
