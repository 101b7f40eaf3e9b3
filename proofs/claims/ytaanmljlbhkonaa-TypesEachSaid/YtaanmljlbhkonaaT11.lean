/- Chapter 20: clauses: how large they are; lent, and still as they were. -/
import Derived.Test.YtaanmljlbhkonaaT9
namespace Go.Proofs.Ytaanmljlbhkonaa.AD
open Go.Proofs
set_option linter.unusedVariables false
set_option linter.unusedSimpArgs false
set_option maxRecDepth 100000

/-- What is reached behind a test and a value. -/
def sizeTV (t v : Ex) (most n : Int) : Int :=
  if n + 1 + size t (most - n) ≤ most then n + 1 + size t (most - n) + size v (most - (n + 1 + size t (most - n))) else n + 1 + size t (most - n)
mutual
def sizeC : Cl → Int → Int → Int
  | .mk _ t v b, most, n => if sizeTV t v most n ≤ most then sizeTV t v most n + sizeCs b (most - sizeTV t v most n) 0 else sizeTV t v most n
def sizeCs : List Cl → Int → Int → Int
  | [], most, n => n
  | c :: r, most, n => if n ≤ most then sizeCs r most (sizeC c most n) else n
end

theorem sizeTV_le (t v : Ex) (most n : Int) (h : n ≤ most) : n + 2 ≤ sizeTV t v most n ∧ sizeTV t v most n ≤ most + 2 := by
  have h1 := sizes_le.1 t (most - n)
  have h2 := sizes_le.1 v (most - (n + 1 + size t (most - n)))
  simp only [sizeTV]
  split <;> omega

theorem sizeCs_ge : (∀ c most n, n ≤ most → n + 2 ≤ sizeC c most n ∧ sizeC c most n ≤ most + 2) ∧ ∀ l most n, n ≤ sizeCs l most n ∧ (sizeCs l most n ≤ n ∨ sizeCs l most n ≤ most + 2) := by
  have main : ∀ l : List Cl, (∀ c, c ∈ l → ∀ most n, n ≤ most → n + 2 ≤ sizeC c most n ∧ sizeC c most n ≤ most + 2) → ∀ most n, n ≤ sizeCs l most n ∧ (sizeCs l most n ≤ n ∨ sizeCs l most n ≤ most + 2) := by
    intro l
    induction l with
    | nil => intro _ most n; simp only [sizeCs]; omega
    | cons c r ih =>
      intro h most n
      simp only [sizeCs]
      split
      · rename_i hn
        have h1 := h c (by simp) most n hn
        have h2 := ih (fun c hc => h c (by simp [hc])) most (sizeC c most n)
        omega
      · omega
  have one : ∀ c most n, n ≤ most → n + 2 ≤ sizeC c most n ∧ sizeC c most n ≤ most + 2 := by
    intro c
    induction c using Cl.ind with
    | h k t v b ih =>
      intro most n hn
      have h1 := sizeTV_le t v most n hn
      have h2 := main b ih (most - sizeTV t v most n) 0
      simp only [sizeC]
      split <;> omega
  exact ⟨one, fun l => main l fun c _ => one c⟩

theorem Sizes_ind (l : List Cl) (ih : ∀ k t v b, Cl.mk k t v b ∈ l → ∀ most : Int, 0 ≤ most → most ≤ 4611686018427387904 → pureF Try.prog 16 [.p (.list 8 (encCs b)), .p (.int .i64 most)] (.p (.int .i64 (sizeCs b most 0)))) (most : Int) (h1 : 0 ≤ most) (h2 : most ≤ 4611686018427387904) :
    pureF Try.prog 16 [.p (.list 8 (encCs l)), .p (.int .i64 most)] (.p (.int .i64 (sizeCs l most 0))) := by
  have he := encCs_len l
  refine pureF_of f16_ok fun H => ?_
  (conv => whnf)
  intro R hR
  have key : ∀ (rest : List Cl) (i : Nat) (n : Int), l.drop i = rest → (i : Int) ≤ n → n ≤ most + 2 → sizeCs rest most n = sizeCs l most 0 → R [(0, .p (.list 8 (encCs l))), (1, .p (.int .i64 most)), (5, .p (.int .i64 n)), (6, .p (.int .i64 i))] H [] := by
    intro rest
    induction rest with
    | nil =>
      intro i n hd hn hb hs
      have hl := drop_nil hd
      refine hR _ _ _ ?_
      (conv => whnf)
      refine splitB_f (decide_eq_false (by omega)) ?_
      exact ⟨by rw [← hs]; rfl, rfl⟩
    | cons c r ihr =>
      intro i n hd hn hb hs
      obtain ⟨hg, hd', hi⟩ := drop_cons hd
      refine hR _ _ _ ?_
      (conv => whnf)
      refine splitB_t (decide_eq_true (by omega)) ?_
      (conv => whnf)
      refine splitB_dec (fun h3 => ?_) (fun h3 => ?_)
      · have hmem := List.mem_of_getElem? hg
        have hrest : sizeCs (c :: r) most n = sizeCs r most (sizeC c most n) := by simp only [sizeCs, if_pos h3]
        have hlim := sizeCs_ge.1 c most n h3
        obtain ⟨k, ⟨o, t, xs⟩, ⟨o2, t2, xs2⟩, b⟩ := c
        have ihc := ih _ _ _ _ hmem
        have hst := Size_spec (.mk o t xs)
        have hsv := Size_spec (.mk o2 t2 xs2)
        have g1 := sizes_le.1 (.mk o t xs) (most - n)
        have hC : sizeC (.mk k (.mk o t xs) (.mk o2 t2 xs2) b) most n = if sizeTV (.mk o t xs) (.mk o2 t2 xs2) most n ≤ most then sizeTV (.mk o t xs) (.mk o2 t2 xs2) most n + sizeCs b (most - sizeTV (.mk o t xs) (.mk o2 t2 xs2) most n) 0 else sizeTV (.mk o t xs) (.mk o2 t2 xs2) most n := rfl
        have hTVle := sizeTV_le (.mk o t xs) (.mk o2 t2 xs2) most n h3
        generalize hTV : sizeTV (.mk o t xs) (.mk o2 t2 xs2) most n = tv at hC hTVle
        (conv => whnf)
        refine ⟨rfl, encC (.mk k (.mk o t xs) (.mk o2 t2 xs2) b), ⟨by omega, encCs_get hg⟩, ?_⟩
        (conv => whnf)
        rw [IntWalk.i64_in (most - n) (by omega)]
        refine CallVC.pureF (hst (most - n) (by omega) (by omega)) rfl ?_
        generalize hn1 : size (.mk o t xs) (most - n) = s1 at g1
        have e1 : tv = if n + 1 + s1 ≤ most then n + 1 + s1 + size (.mk o2 t2 xs2) (most - (n + 1 + s1)) else n + 1 + s1 := by rw [← hTV, sizeTV, hn1]
        (conv => whnf)
        rw [IntWalk.i64_in (n + 1) (by omega), IntWalk.i64_in (n + 1 + s1) (by omega)]
        refine splitB_dec (fun h4 => ?_) (fun h4 => ?_)
        · have g2 := sizes_le.1 (.mk o2 t2 xs2) (most - (n + 1 + s1))
          rw [if_pos h4] at e1
          (conv => whnf)
          refine ⟨rfl, encC (.mk k (.mk o t xs) (.mk o2 t2 xs2) b), ⟨by omega, encCs_get hg⟩, ?_⟩
          (conv => whnf)
          rw [IntWalk.i64_in (most - (n + 1 + s1)) (by omega)]
          refine CallVC.pureF (hsv (most - (n + 1 + s1)) (by omega) (by omega)) rfl ?_
          generalize hn2 : size (.mk o2 t2 xs2) (most - (n + 1 + s1)) = s2 at g2 e1
          (conv => whnf)
          rw [IntWalk.i64_in (n + 1 + s1 + s2) (by omega), ← e1]
          refine splitB_dec (fun h5 => ?_) (fun h5 => ?_)
          · have g3 := sizeCs_ge.2 b (most - tv) 0
            rw [if_pos h5] at hC
            (conv => whnf)
            refine ⟨rfl, encC (.mk k (.mk o t xs) (.mk o2 t2 xs2) b), ⟨by omega, encCs_get hg⟩, ?_⟩
            (conv => whnf)
            rw [IntWalk.i64_in (most - tv) (by omega)]
            refine CallVC.pureF (ihc (most - tv) (by omega) (by omega)) rfl ?_
            (conv => whnf)
            rw [IntWalk.i64_in _ (by omega), IntWalk.i64_in _ (by omega), ← hC]
            exact ihr (i + 1) _ hd' (by omega) (by omega) (by rw [← hs, hrest])
          · rw [if_neg h5] at hC
            (conv => whnf)
            rw [IntWalk.i64_in _ (by omega), ← hC]
            exact ihr (i + 1) _ hd' (by omega) (by omega) (by rw [← hs, hrest])
        · rw [if_neg h4] at e1
          (conv => whnf)
          rw [← e1]
          refine splitB_f (decide_eq_false (by omega)) ?_
          rw [if_neg (by omega)] at hC
          (conv => whnf)
          rw [IntWalk.i64_in _ (by omega), ← hC]
          exact ihr (i + 1) _ hd' (by omega) (by omega) (by rw [← hs, hrest])
      · exact ⟨by rw [← hs]; simp only [sizeCs, if_neg h3], rfl⟩
  exact key l 0 0 rfl (by omega) (by omega) rfl

theorem Sizes_all (c : Cl) : ∀ k t v b, c = .mk k t v b → ∀ most : Int, 0 ≤ most → most ≤ 4611686018427387904 → pureF Try.prog 16 [.p (.list 8 (encCs b)), .p (.int .i64 most)] (.p (.int .i64 (sizeCs b most 0))) := by
  induction c using Cl.ind with
  | h k t v b ih =>
    intro k' t' v' b' e most h1 h2
    cases e
    exact Sizes_ind b (fun k2 t2 v2 b2 hm => ih _ hm k2 t2 v2 b2 rfl) most h1 h2
theorem Sizes_spec (l : List Cl) (most : Int) (h1 : 0 ≤ most) (h2 : most ≤ 4611686018427387904) : pureF Try.prog 16 [.p (.list 8 (encCs l)), .p (.int .i64 most)] (.p (.int .i64 (sizeCs l most 0))) :=
  Sizes_ind l (fun k t v b hm => Sizes_all _ k t v b rfl) most h1 h2

/-- No row is long. -/
inductive FewC : Cl → Prop
  | mk (k : Int) (t v : Ex) (b : List Cl) : Few t → Few v → b.length ≤ 20000 → (∀ c, c ∈ b → FewC c) → FewC (.mk k t v b)

theorem fewC_all : ∀ c : Cl, ∀ most n : Int, most ≤ 20000 → 0 ≤ n → n ≤ most → sizeC c most n ≤ most → FewC c := by
  intro c
  induction c using Cl.ind with
  | h k t v b ih =>
    intro most n hm h0 hn h
    have main : ∀ (l : List Cl) (m n : Int), (∀ c, c ∈ l → c ∈ b) → m ≤ 20000 → 0 ≤ n → sizeCs l m n ≤ m → n + l.length ≤ m ∧ ∀ c, c ∈ l → FewC c := by
      intro l
      induction l with
      | nil => intro m n _ _ _ h; simp only [sizeCs] at h; exact ⟨by simpa using h, fun c hc => by cases hc⟩
      | cons c r ihr =>
        intro m n hl hm h0 h
        simp only [sizeCs] at h
        split at h
        · rename_i h2
          have h3 := sizeCs_ge.1 c m n h2
          have h4 := sizeCs_ge.2 r m (sizeC c m n)
          obtain ⟨h6, h7⟩ := ihr m _ (fun d hd => hl d (by simp [hd])) hm (by omega) h
          refine ⟨by simp; omega, fun d hd => ?_⟩
          cases hd with
          | head => exact ih c (hl c (by simp)) m n hm h0 h2 (by omega)
          | tail _ hd => exact h7 d hd
        · omega
    have h1 := sizeTV_le t v most n hn
    simp only [sizeC] at h
    split at h
    · rename_i h2
      obtain ⟨h3, h4⟩ := main b (most - sizeTV t v most n) 0 (fun c hc => hc) (by omega) (by omega) (by omega)
      simp only [sizeTV] at h2 h3
      have g1 := sizes_le.1 t (most - n)
      split at h2
      · rename_i h5
        have g2 := sizes_le.1 v (most - (n + 1 + size t (most - n)))
        exact .mk k t v b (few_of t (most - n) (by omega) (by omega)) (few_of v (most - (n + 1 + size t (most - n))) (by omega) (by omega)) (by omega) h4
      · omega
    · omega

theorem fewCs_of (l : List Cl) (h : sizeCs l 20000 0 ≤ 20000) : l.length ≤ 20000 ∧ ∀ c, c ∈ l → FewC c := by
  have main : ∀ (l : List Cl) (n : Int), 0 ≤ n → sizeCs l 20000 n ≤ 20000 → n + l.length ≤ 20000 ∧ ∀ c, c ∈ l → FewC c := by
    intro l
    induction l with
    | nil => intro n _ h; simp only [sizeCs] at h; exact ⟨by simpa using h, fun c hc => by cases hc⟩
    | cons c r ihr =>
      intro n h0 h
      simp only [sizeCs] at h
      split at h
      · rename_i h2
        have h3 := sizeCs_ge.1 c 20000 n h2
        have h4 := sizeCs_ge.2 r 20000 (sizeC c 20000 n)
        obtain ⟨h6, h7⟩ := ihr _ (by omega) h
        refine ⟨by simp; omega, fun d hd => ?_⟩
        cases hd with
        | head => exact fewC_all c 20000 n (by omega) h0 h2 (by omega)
        | tail _ hd => exact h7 d hd
      · omega
  obtain ⟨h1, h2⟩ := main l 0 (by omega) h
  exact ⟨by omega, h2⟩

/-! ### lent -/
def markC : PV := .agg [.int .u8 77, .int .u8 0, .str ⟨#[]⟩, .nils, .int .u8 0, .str ⟨#[]⟩, .nils, .nils]
mutual
def encTC : Cl → PV
  | .mk k (.mk o t xs) (.mk o2 t2 xs2) b => .agg [.int .u8 k, .int .u8 o, .str t, .lent 3 (encTs xs) [markE], .int .u8 o2, .str t2, .lent 3 (encTs xs2) [markE], .lent 8 (encTCs b) [markC]]
def encTCs : List Cl → List PV
  | [] => []
  | a :: r => encTC a :: encTCs r
end
theorem encTCs_map : ∀ l, encTCs l = l.map encTC
  | [] => rfl
  | a :: r => by rw [encTCs, encTCs_map r]; rfl
theorem encTCs_len (l : List Cl) : (encTCs l).length = l.length := by rw [encTCs_map, List.length_map]
theorem encTCs_get {l : List Cl} {i : Nat} {a : Cl} (h : l[i]? = some a) : (encTCs l)[i]? = some (encTC a) := by rw [encTCs_map, List.getElem?_map, h]; rfl
theorem encTCs_take {xs : List Cl} {k : Nat} {a : Cl} (h : xs[k]? = some a) : encTCs (xs.take (k + 1)) = encTCs (xs.take k) ++ [encTC a] := by
  rw [encTCs_map, encTCs_map, ← List.take_append_getElem (get_lt h), List.map_append]
  simp [(List.getElem?_eq_some_iff.1 h).2]
theorem encTCs_cut (xs : List Cl) (k : Nat) : (encTCs (xs.take k)).take k = encTCs (xs.take k) := by
  apply List.take_of_length_le
  rw [encTCs_len, List.length_take]
  omega

theorem encTs_les (xs : List Ex) : PV.les (encTs xs) (encs xs) := by
  induction xs with
  | nil => exact .nil
  | cons a r ih => exact .cons _ _ _ _ (encT_le a) ih
theorem encTC_le (c : Cl) : (encTC c).le (encC c) := by
  induction c using Cl.ind with
  | h k t v b ih =>
    obtain ⟨o, t, xs⟩ := t
    obtain ⟨o2, t2, xs2⟩ := v
    have main : ∀ l : List Cl, (∀ a, a ∈ l → (encTC a).le (encC a)) → PV.les (encTCs l) (encCs l) := by
      intro l
      induction l with
      | nil => intro _; exact .nil
      | cons a r ihr => intro h; exact .cons _ _ _ _ (h a (by simp)) (ihr fun b hb => h b (by simp [hb]))
    exact .agg (.cons _ _ _ _ (.refl _) (.cons _ _ _ _ (.refl _) (.cons _ _ _ _ (.refl _) (.cons _ _ _ _ (.lent (encTs_les xs)) (.cons _ _ _ _ (.refl _) (.cons _ _ _ _ (.refl _) (.cons _ _ _ _ (.lent (encTs_les xs2)) (.cons _ _ _ _ (.lent (main b ih)) .nil))))))))
theorem encTCs_le (l : List Cl) : PV.le (.lent 8 (encTCs l) [markC]) (.list 8 (encCs l)) := by
  refine .lent ?_
  induction l with
  | nil => exact .nil
  | cons a r ih => exact .cons _ _ _ _ (encTC_le a) ih

theorem LentClauses_ind (l : List Cl) (hl : l.length ≤ 20000) (hf : ∀ c, c ∈ l → FewC c) (ih : ∀ k t v b, Cl.mk k t v b ∈ l → pureF Try.prog 17 [.p (.list 8 (encCs b))] (.p (.lent 8 (encTCs b) [markC]))) :
    pureF Try.prog 17 [.p (.list 8 (encCs l))] (.p (.lent 8 (encTCs l) [markC])) := by
  have he := encCs_len l
  refine pureF_of f17_ok fun H => ?_
  (conv => whnf)
  intro R hR
  have key : ∀ (a1 a2 a3 a4 a5 a6 a7 a8 : PV) (rest : List Cl) (k : Nat), l.drop (k + 1) = rest → k < l.length → R [(0, .p (.list 8 (encCs l))), (3, .view (.l 1) k 8 (k + 1)), (4, .p (.int .i64 (k + 1 : Nat)))] H [.cells [.p a1, .p a2, .p a3, .p a4, .p a5, .p a6, .p a7, .p a8], .buf k 8 (encTCs (l.take (k + 1)))] := by
    intro a1 a2 a3 a4 a5 a6 a7 a8 rest
    induction rest with
    | nil =>
      intro k hd hk
      have hl := drop_nil hd
      have hk1 : k + 1 = l.length := by omega
      refine hR _ _ _ ?_
      (conv => whnf)
      refine splitB_f (decide_eq_false (by omega)) ?_
      (conv => whnf)
      refine ⟨rfl, ?_⟩
      (conv => whnf)
      refine ⟨⟨rfl, rfl, rfl, by rw [encTCs_len, List.length_take]; omega⟩, by simp [room]; omega, encTCs l ++ [markC], by rw [encTCs_cut, hk1, List.take_length]; rfl, ?_⟩
      (conv => whnf)
      refine ⟨rfl, ?_⟩
      (conv => whnf)
      refine ⟨⟨by omega, by rw [he]; simp; omega⟩, ?_⟩
      (conv => whnf)
      refine ⟨⟨rfl, rfl⟩, .inr ⟨encTCs l, [markC], ⟨by omega, by simp⟩, rfl, by rw [encTCs_len]; simp [he], ?_⟩⟩
      exact ⟨rfl, rfl⟩
    | cons c r ihr =>
      intro k hd hk
      obtain ⟨hg, hd', hi⟩ := drop_cons hd
      have hmem := List.mem_of_getElem? hg
      have hfc := hf c hmem
      refine hR _ _ _ ?_
      (conv => whnf)
      refine splitB_t (decide_eq_true (by omega)) ?_
      (conv => whnf)
      obtain ⟨kk, ⟨o, t, xs⟩, ⟨o2, t2, xs2⟩, b⟩ := c
      have ihc := ih _ _ _ _ hmem
      cases hfc with
      | mk _ _ _ _ hft hfv hbl hfb =>
      refine ⟨rfl, encC (.mk kk (.mk o t xs) (.mk o2 t2 xs2) b), ⟨by omega, encCs_get hg⟩, ?_⟩
      (conv => whnf)
      refine ⟨rfl, encC (.mk kk (.mk o t xs) (.mk o2 t2 xs2) b), ⟨by omega, encCs_get hg⟩, ?_⟩
      (conv => whnf)
      refine CallD.pureF (LentExpr_spec _ hft) rfl ?_
      (conv => whnf)
      refine ⟨rfl, encC (.mk kk (.mk o t xs) (.mk o2 t2 xs2) b), ⟨by omega, encCs_get hg⟩, ?_⟩
      (conv => whnf)
      refine CallD.pureF (LentExpr_spec _ hfv) rfl ?_
      (conv => whnf)
      refine ⟨rfl, encC (.mk kk (.mk o t xs) (.mk o2 t2 xs2) b), ⟨by omega, encCs_get hg⟩, ?_⟩
      (conv => whnf)
      refine CallVC.pureF ihc rfl ?_
      (conv => whnf)
      refine ⟨rfl, ?_⟩
      (conv => whnf)
      refine ⟨⟨rfl, rfl, rfl, by rw [encTCs_len, List.length_take]; omega⟩, by simp [room]; omega, encTCs (l.take (k + 1 + 1)), by rw [encTCs_cut, encTCs_take hg]; rfl, ?_⟩
      (conv => whnf)
      rw [IntWalk.i64_in _ (by omega)]
      exact ihr (k + 1) hd' hi
  cases l with
  | nil =>
    refine hR _ _ _ ?_
    (conv => whnf)
    refine splitB_f rfl ?_
    (conv => whnf)
    refine ⟨rfl, ?_⟩
    (conv => whnf)
    refine ⟨by simp [room], ?_⟩
    (conv => whnf)
    refine ⟨rfl, ?_⟩
    (conv => whnf)
    refine ⟨⟨by omega, by decide⟩, ?_⟩
    (conv => whnf)
    refine ⟨⟨rfl, rfl⟩, .inr ⟨[], [markC], ⟨by omega, by decide⟩, rfl, rfl, ?_⟩⟩
    exact ⟨rfl, rfl⟩
  | cons c r =>
    have hfc := hf c (by simp)
    refine hR _ _ _ ?_
    (conv => whnf)
    refine splitB_t (decide_eq_true (by rw [he]; simp)) ?_
    (conv => whnf)
    obtain ⟨kk, ⟨o, t, xs⟩, ⟨o2, t2, xs2⟩, b⟩ := c
    have ihc := ih _ _ _ _ (by simp : Cl.mk kk (.mk o t xs) (.mk o2 t2 xs2) b ∈ _)
    cases hfc with
    | mk _ _ _ _ hft hfv hbl hfb =>
    refine ⟨rfl, encC (.mk kk (.mk o t xs) (.mk o2 t2 xs2) b), ⟨by omega, rfl⟩, ?_⟩
    (conv => whnf)
    refine ⟨rfl, encC (.mk kk (.mk o t xs) (.mk o2 t2 xs2) b), ⟨by omega, rfl⟩, ?_⟩
    (conv => whnf)
    refine CallD.pureF (LentExpr_spec _ hft) rfl ?_
    (conv => whnf)
    refine ⟨rfl, encC (.mk kk (.mk o t xs) (.mk o2 t2 xs2) b), ⟨by omega, rfl⟩, ?_⟩
    (conv => whnf)
    refine CallD.pureF (LentExpr_spec _ hfv) rfl ?_
    (conv => whnf)
    refine ⟨rfl, encC (.mk kk (.mk o t xs) (.mk o2 t2 xs2) b), ⟨by omega, rfl⟩, ?_⟩
    (conv => whnf)
    refine CallVC.pureF ihc rfl ?_
    (conv => whnf)
    refine ⟨rfl, ?_⟩
    (conv => whnf)
    refine ⟨by simp [room], ?_⟩
    (conv => whnf)
    exact key _ _ _ _ _ _ _ _ r 0 rfl (by simp)

theorem LentClauses_all (c : Cl) : ∀ k t v b, c = .mk k t v b → FewC c → pureF Try.prog 17 [.p (.list 8 (encCs b))] (.p (.lent 8 (encTCs b) [markC])) := by
  induction c using Cl.ind with
  | h k t v b ih =>
    intro k' t' v' b' e hf
    cases e
    cases hf with
    | mk _ _ _ _ _ _ hl hb => exact LentClauses_ind b hl hb fun k2 t2 v2 b2 hm => ih _ hm k2 t2 v2 b2 rfl (hb _ hm)
theorem LentClauses_spec (l : List Cl) (hl : l.length ≤ 20000) (hf : ∀ c, c ∈ l → FewC c) : pureF Try.prog 17 [.p (.list 8 (encCs l))] (.p (.lent 8 (encTCs l) [markC])) :=
  LentClauses_ind l hl hf fun k t v b hm => LentClauses_all _ k t v b rfl (hf _ hm)

theorem KeptClauses_ind (l : List Cl) (hl : l.length ≤ 20000) (hf : ∀ c, c ∈ l → FewC c) (ih : ∀ k t v b, Cl.mk k t v b ∈ l → pureF Try.prog 20 [.p (.lent 8 (encTCs b) [markC]), .p (.list 8 (encCs b))] (.p (.bool true))) :
    pureF Try.prog 20 [.p (.lent 8 (encTCs l) [markC]), .p (.list 8 (encCs l))] (.p (.bool true)) := by
  have he := encCs_len l
  have heT := encTCs_len l
  refine pureF_of f20_ok fun H => ?_
  (conv => whnf)
  refine splitB_f (by rw [he, heT]; simp) ?_
  (conv => whnf)
  rw [IntWalk.i64_in _ (by omega)]
  refine ⟨rfl, ⟨by omega, by rw [List.length_append, heT, he]; simp⟩, ?_⟩
  (conv => whnf)
  refine ⟨rfl, markC, ⟨by omega, ?_⟩, ?_⟩
  · rw [List.take_of_length_le (by rw [List.length_append, heT, he]; simp)]
    rw [List.getElem?_append_right (by rw [heT, he]; simp)]
    simp [heT, he]
  (conv => whnf)
  refine splitB_f rfl ?_
  (conv => whnf)
  intro R hR
  have key : ∀ (rest : List Cl) (i : Nat), l.drop i = rest → R [(0, .p (.lent 8 (encTCs l) [markC])), (1, .p (.list 8 (encCs l))), (5, .p (.int .i64 (encCs l).length)), (6, .p (.int .i64 i))] H [] := by
    intro rest
    induction rest with
    | nil =>
      intro i hd
      have hl := drop_nil hd
      refine hR _ _ _ ?_
      (conv => whnf)
      refine splitB_f (decide_eq_false (by omega)) ?_
      exact ⟨rfl, rfl⟩
    | cons c r ihr =>
      intro i hd
      obtain ⟨hg, hd', hi⟩ := drop_cons hd
      have hmem := List.mem_of_getElem? hg
      have hfc := hf c hmem
      refine hR _ _ _ ?_
      (conv => whnf)
      refine splitB_t (decide_eq_true (by omega)) ?_
      (conv => whnf)
      obtain ⟨kk, ⟨o, t, xs⟩, ⟨o2, t2, xs2⟩, b⟩ := c
      have ihc := ih _ _ _ _ hmem
      cases hfc with
      | mk _ _ _ _ hft hfv hbl hfb =>
      refine ⟨rfl, encTC (.mk kk (.mk o t xs) (.mk o2 t2 xs2) b), ⟨by omega, encTCs_get hg⟩, ?_⟩
      (conv => whnf)
      refine ⟨rfl, encC (.mk kk (.mk o t xs) (.mk o2 t2 xs2) b), ⟨by omega, encCs_get hg⟩, ?_⟩
      (conv => whnf)
      refine splitB_f (by simp) ?_
      (conv => whnf)
      refine ⟨rfl, encTC (.mk kk (.mk o t xs) (.mk o2 t2 xs2) b), ⟨by omega, encTCs_get hg⟩, ?_⟩
      (conv => whnf)
      refine ⟨rfl, encC (.mk kk (.mk o t xs) (.mk o2 t2 xs2) b), ⟨by omega, encCs_get hg⟩, ?_⟩
      (conv => whnf)
      refine CallD.pureF (KeptExpr_spec _ hft) rfl ?_
      (conv => whnf)
      refine splitB_f rfl ?_
      (conv => whnf)
      refine ⟨rfl, encTC (.mk kk (.mk o t xs) (.mk o2 t2 xs2) b), ⟨by omega, encTCs_get hg⟩, ?_⟩
      (conv => whnf)
      refine ⟨rfl, encC (.mk kk (.mk o t xs) (.mk o2 t2 xs2) b), ⟨by omega, encCs_get hg⟩, ?_⟩
      (conv => whnf)
      refine CallD.pureF (KeptExpr_spec _ hfv) rfl ?_
      (conv => whnf)
      refine splitB_f rfl ?_
      (conv => whnf)
      refine ⟨rfl, encTC (.mk kk (.mk o t xs) (.mk o2 t2 xs2) b), ⟨by omega, encTCs_get hg⟩, ?_⟩
      (conv => whnf)
      refine ⟨rfl, encC (.mk kk (.mk o t xs) (.mk o2 t2 xs2) b), ⟨by omega, encCs_get hg⟩, ?_⟩
      (conv => whnf)
      refine CallD.pureF ihc rfl ?_
      (conv => whnf)
      refine splitB_f rfl ?_
      (conv => whnf)
      rw [IntWalk.i64_in _ (by omega)]
      exact ihr (i + 1) hd'
  exact key l 0 rfl

theorem KeptClauses_all (c : Cl) : ∀ k t v b, c = .mk k t v b → FewC c → pureF Try.prog 20 [.p (.lent 8 (encTCs b) [markC]), .p (.list 8 (encCs b))] (.p (.bool true)) := by
  induction c using Cl.ind with
  | h k t v b ih =>
    intro k' t' v' b' e hf
    cases e
    cases hf with
    | mk _ _ _ _ _ _ hl hb => exact KeptClauses_ind b hl hb fun k2 t2 v2 b2 hm => ih _ hm k2 t2 v2 b2 rfl (hb _ hm)
theorem KeptClauses_spec (l : List Cl) (hl : l.length ≤ 20000) (hf : ∀ c, c ∈ l → FewC c) : pureF Try.prog 20 [.p (.lent 8 (encTCs l) [markC]), .p (.list 8 (encCs l))] (.p (.bool true)) :=
  KeptClauses_ind l hl hf fun k t v b hm => KeptClauses_all _ k t v b rfl (hf _ hm)

end Go.Proofs.Ytaanmljlbhkonaa.AD
