/- Chapter 20: a tree lent, with a mark behind each row; and still as it was. -/
import Derived.Test.YtaanmljlbhkonaaG5
namespace Go.Proofs.Ytaanmljlbhkonaa.AD
open Go.Proofs
set_option linter.unusedVariables false
set_option linter.unusedSimpArgs false
set_option maxRecDepth 100000

def markEx : PV := .agg [.int .u8 77, .str ⟨#[]⟩, .nils]
mutual
def encT : Ex → PV
  | .mk o t xs => .agg [.int .u8 o, .str t, .lent 3 (encTs xs) [markEx]]
def encTs : List Ex → List PV
  | [] => []
  | a :: r => encT a :: encTs r
end
theorem encTs_map : ∀ l, encTs l = l.map encT
  | [] => rfl
  | a :: r => by rw [encTs, encTs_map r]; rfl
theorem encTs_len (xs : List Ex) : (encTs xs).length = xs.length := by rw [encTs_map, List.length_map]

/-- No row is long. -/
inductive Few : Ex → Prop
  | mk (o : Int) (t : ByteArray) (xs : List Ex) : xs.length ≤ 20000 → (∀ a, a ∈ xs → Few a) → Few (.mk o t xs)

theorem encT_le (e : Ex) : (encT e).le (enc e) := by
  induction e using Ex.ind with
  | h o t xs ih =>
    have main : ∀ l : List Ex, (∀ a, a ∈ l → (encT a).le (enc a)) → PV.les (encTs l) (encs l) := by
      intro l
      induction l with
      | nil => intro _; exact .nil
      | cons a r ihr => intro h; exact .cons _ _ _ _ (h a (by simp)) (ihr fun b hb => h b (by simp [hb]))
    exact .agg (.cons _ _ _ _ (.refl _) (.cons _ _ _ _ (.refl _) (.cons _ _ _ _ (.lent (main xs ih)) .nil)))

theorem encTs_take {xs : List Ex} {k : Nat} {a : Ex} (h : xs[k]? = some a) : encTs (xs.take (k + 1)) = encTs (xs.take k) ++ [encT a] := by
  rw [encTs_map, encTs_map, ← List.take_append_getElem (get_lt h), List.map_append]
  simp [(List.getElem?_eq_some_iff.1 h).2]
theorem encTs_cut (xs : List Ex) (k : Nat) : (encTs (xs.take k)).take k = encTs (xs.take k) := by
  apply List.take_of_length_le
  rw [encTs_len, List.length_take]
  omega

theorem LentExpr_spec (e : Ex) : Few e → pureF Try.prog 10 [.p (enc e)] (.p (encT e)) := by
  induction e using Ex.ind with
  | h o t xs ih =>
    intro hfew
    cases hfew with
    | mk _ _ _ hx hxs =>
    have he := encs_len xs
    refine pureF_of f10_ok fun H => ?_
    (conv => whnf)
    intro R hR
    have key : ∀ (rest : List Ex) (k : Nat), xs.drop (k + 1) = rest → k < xs.length → R [(1, .ref (.l 0) 0), (2, .ref (.l 1) 0), (3, .ref (.l 2) 0), (4, .p (.int .i64 (k + 1 : Nat)))] H
        [.cells [.p (.int .u8 o), .p (.str t), .p (.list 3 (encs xs))], .cells [.p (.int .u8 0), .p (.str ⟨#[]⟩), .p .nils], .cells [.p (.int .u8 o), .p (.str t), .view (.l 3) k 3 (k + 1)], .buf k 3 (encTs (xs.take (k + 1)))] := by
      intro rest
      induction rest with
      | nil =>
        intro k hd hk
        have hl := drop_nil hd
        have hk1 : k + 1 = xs.length := by omega
        refine hR _ _ _ ?_
        (conv => whnf)
        refine splitB_f (decide_eq_false (by omega)) ?_
        (conv => whnf)
        refine ⟨rfl, ?_⟩
        (conv => whnf)
        refine ⟨⟨rfl, rfl, rfl, by rw [encTs_len, List.length_take]; omega⟩, by simp [room]; omega, encTs xs ++ [markEx], by rw [encTs_cut, hk1, List.take_length]; rfl, ?_⟩
        (conv => whnf)
        refine ⟨rfl, ?_⟩
        (conv => whnf)
        refine ⟨⟨by omega, by rw [he]; simp; omega⟩, ?_⟩
        (conv => whnf)
        refine ⟨⟨rfl, rfl⟩, .inr ⟨encTs xs, [markEx], ⟨by omega, by simp⟩, rfl, by rw [encTs_len]; simp [he], ?_⟩⟩
        exact ⟨rfl, rfl⟩
      | cons a r ihr =>
        intro k hd hk
        obtain ⟨hg, hd', hi⟩ := drop_cons hd
        have iha := ih a (List.mem_of_getElem? hg) (hxs a (List.mem_of_getElem? hg))
        refine hR _ _ _ ?_
        (conv => whnf)
        refine splitB_t (decide_eq_true (by omega)) ?_
        (conv => whnf)
        obtain ⟨o', t', xs'⟩ := a
        refine ⟨rfl, enc (.mk o' t' xs'), ⟨by omega, encs_get hg⟩, ?_⟩
        (conv => whnf)
        refine CallD.pureF iha rfl ?_
        (conv => whnf)
        refine ⟨rfl, ?_⟩
        (conv => whnf)
        refine ⟨⟨rfl, rfl, rfl, by rw [encTs_len, List.length_take]; omega⟩, by simp [room]; omega, encTs (xs.take (k + 1 + 1)), by rw [encTs_cut, encTs_take hg], ?_⟩
        (conv => whnf)
        rw [IntWalk.i64_in _ (by omega)]
        exact ihr (k + 1) hd' hi
    cases xs with
    | nil =>
      refine hR _ _ _ ?_
      (conv => whnf)
      refine splitB_f rfl ?_
      (conv => whnf)
      refine ⟨rfl, ?_⟩
      (conv => whnf)
      refine ⟨by simp [room], ?_⟩
      (conv => whnf)
      refine ⟨rfl, ?_⟩
      (conv => whnf)
      refine ⟨⟨by omega, by decide⟩, ?_⟩
      (conv => whnf)
      refine ⟨⟨rfl, rfl⟩, .inr ⟨[], [markEx], ⟨by omega, by decide⟩, rfl, rfl, ?_⟩⟩
      exact ⟨rfl, rfl⟩
    | cons a r =>
      have iha := ih a (by simp) (hxs a (by simp))
      refine hR _ _ _ ?_
      (conv => whnf)
      refine splitB_t (decide_eq_true (by rw [he]; simp)) ?_
      (conv => whnf)
      obtain ⟨o', t', xs'⟩ := a
      refine ⟨rfl, enc (.mk o' t' xs'), ⟨by omega, rfl⟩, ?_⟩
      (conv => whnf)
      refine CallD.pureF iha rfl ?_
      (conv => whnf)
      refine ⟨rfl, ?_⟩
      (conv => whnf)
      refine ⟨by simp [room], ?_⟩
      (conv => whnf)
      exact key r 0 rfl (by simp)

theorem encTs_get {xs : List Ex} {i : Nat} {a : Ex} (h : xs[i]? = some a) : (encTs xs)[i]? = some (encT a) := by rw [encTs_map, List.getElem?_map, h]; rfl

theorem KeptExpr_spec (e : Ex) : Few e → pureF Try.prog 13 [.p (encT e), .p (enc e)] (.p (.bool true)) := by
  induction e using Ex.ind with
  | h o t xs ih =>
    intro hfew
    cases hfew with
    | mk _ _ _ hx hxs =>
    have he := encs_len xs
    have heT := encTs_len xs
    refine pureF_of f13_ok fun H => ?_
    (conv => whnf)
    refine splitB_f (by simp) ?_
    (conv => whnf)
    refine splitB_f (by simp) ?_
    (conv => whnf)
    refine splitB_f (by rw [he, heT]; simp) ?_
    (conv => whnf)
    rw [IntWalk.i64_in _ (by omega)]
    refine ⟨rfl, ⟨by omega, by rw [List.length_append, heT, he]; simp⟩, ?_⟩
    (conv => whnf)
    refine ⟨rfl, markEx, ⟨by omega, ?_⟩, ?_⟩
    · rw [List.take_of_length_le (by rw [List.length_append, heT, he]; simp)]
      rw [List.getElem?_append_right (by rw [heT, he]; simp)]
      simp [heT, he]
    (conv => whnf)
    refine splitB_f rfl ?_
    (conv => whnf)
    intro R hR
    have key : ∀ (rest : List Ex) (i : Nat), xs.drop i = rest → R [(2, .ref (.l 0) 0), (3, .ref (.l 1) 0), (5, .p (.int .i64 (encs xs).length)), (6, .p (.int .i64 i))] H
        [.cells [.p (.int .u8 o), .p (.str t), .p (.lent 3 (encTs xs) [markEx])], .cells [.p (.int .u8 o), .p (.str t), .p (.list 3 (encs xs))]] := by
      intro rest
      induction rest with
      | nil =>
        intro i hd
        have hl := drop_nil hd
        refine hR _ _ _ ?_
        (conv => whnf)
        refine splitB_f (decide_eq_false (by omega)) ?_
        exact ⟨rfl, rfl⟩
      | cons a r ihr =>
        intro i hd
        obtain ⟨hg, hd', hi⟩ := drop_cons hd
        have iha := ih a (List.mem_of_getElem? hg) (hxs a (List.mem_of_getElem? hg))
        refine hR _ _ _ ?_
        (conv => whnf)
        refine splitB_t (decide_eq_true (by omega)) ?_
        (conv => whnf)
        obtain ⟨o', t', xs'⟩ := a
        refine ⟨rfl, encT (.mk o' t' xs'), ⟨by omega, encTs_get hg⟩, ?_⟩
        (conv => whnf)
        refine ⟨rfl, enc (.mk o' t' xs'), ⟨by omega, encs_get hg⟩, ?_⟩
        (conv => whnf)
        refine CallD.pureF iha rfl ?_
        (conv => whnf)
        refine splitB_f rfl ?_
        (conv => whnf)
        rw [IntWalk.i64_in _ (by omega)]
        exact ihr (i + 1) hd'
    exact key xs 0 rfl

/-- A tree that is not large has short rows. -/
theorem few_of (e : Ex) : ∀ m : Int, m ≤ 20000 → size e m ≤ m → Few e := by
  induction e using Ex.ind with
  | h o t xs ih =>
    intro m hm h
    have main : ∀ (l : List Ex) (n : Int), (∀ a, a ∈ l → a ∈ xs) → 1 ≤ n → sizes l m n ≤ m → n + l.length ≤ m ∧ ∀ a, a ∈ l → Few a := by
      intro l
      induction l with
      | nil => intro n _ _ h; simp only [sizes] at h; exact ⟨by simpa using h, fun a ha => by cases ha⟩
      | cons a r ihr =>
        intro n hl hn h
        simp only [sizes] at h
        split at h
        · rename_i h2
          have h3 := sizes_le.1 a (m - n)
          have h4 := sizes_le.2 r m (n + size a (m - n)) (by omega)
          have h5 : size a (m - n) ≤ m - n := by omega
          obtain ⟨h6, h7⟩ := ihr _ (fun b hb => hl b (by simp [hb])) (by omega) h
          refine ⟨by simp; omega, fun b hb => ?_⟩
          cases hb with
          | head => exact ih a (hl a (by simp)) (m - n) (by omega) h5
          | tail _ hb => exact h7 b hb
        · omega
    obtain ⟨h1, h2⟩ := main xs 1 (fun _ h => h) (by omega) h
    exact .mk o t xs (by omega) h2

end Go.Proofs.Ytaanmljlbhkonaa.AD

namespace Go.Proofs.Ytaanmljlbhkonaa.AD
open Go.Proofs
set_option linter.unusedVariables false
set_option linter.unusedSimpArgs false
set_option maxRecDepth 100000

inductive Cl where
  | mk (kind : Int) (test value : Ex) (block : List Cl)

theorem Cl.ind {motive : Cl → Prop} (h : ∀ k t v b, (∀ a, a ∈ b → motive a) → motive (.mk k t v b)) (c : Cl) : motive c := by
  match c with
  | .mk k t v b => exact h k t v b fun a ha => Cl.ind h a
termination_by SizeOf.sizeOf c
decreasing_by
  have := List.sizeOf_lt_of_mem ha
  simp only [Cl.mk.sizeOf_spec]
  omega

mutual
def encC : Cl → PV
  | .mk k (.mk o t xs) (.mk o2 t2 xs2) b => .agg [.int .u8 k, .int .u8 o, .str t, .list 3 (encs xs), .int .u8 o2, .str t2, .list 3 (encs xs2), .list 8 (encCs b)]
def encCs : List Cl → List PV
  | [] => []
  | a :: r => encC a :: encCs r
end
theorem encCs_map : ∀ l, encCs l = l.map encC
  | [] => rfl
  | a :: r => by rw [encCs, encCs_map r]; rfl
theorem encCs_len (l : List Cl) : (encCs l).length = l.length := by rw [encCs_map, List.length_map]
theorem encCs_get {l : List Cl} {i : Nat} {a : Cl} (h : l[i]? = some a) : (encCs l)[i]? = some (encC a) := by rw [encCs_map, List.getElem?_map, h]; rfl

inductive FitsC : Cl → Prop
  | mk (k : Int) (t v : Ex) (b : List Cl) : 0 ≤ k → Fits t → Fits v → (b.length : Int) ≤ 9223372036854775807 → (∀ a, a ∈ b → FitsC a) → FitsC (.mk k t v b)

def zeroE : Ex → Bool
  | .mk o t xs => decide (o = 0) && (eqS t ⟨#[]⟩ && decide (xs.length = 0))
mutual
def checkC : Cl → Bool
  | .mk k t v b => (if k = 2 then mayE v && decide (b.length = 0) else if k = 3 then zeroE v && checkL b else if k = 1 then zeroE v && decide (b.length = 0) else false) && mayE t
def checkL : List Cl → Bool
  | [] => true
  | a :: r => checkC a && checkL r
end
def errT (b : Bool) : Int := if b then 0 else 151
theorem errT_zero (b : Bool) : errT b = 0 ↔ b = true := by cases b <;> simp [errT]

theorem Check_ind (l : List Cl) (hl : (l.length : Int) ≤ 9223372036854775807) (hf : ∀ c, c ∈ l → FitsC c) (ih : ∀ k t v b, Cl.mk k t v b ∈ l → pureF Try.prog 14 [.p (.list 8 (encCs b))] (.p (.int .i64 (errT (checkL b))))) :
    pureF Try.prog 14 [.p (.list 8 (encCs l))] (.p (.int .i64 (errT (checkL l)))) := by
  have he := encCs_len l
  refine pureF_of f14_ok fun H => ?_
  (conv => whnf)
  intro R hR
  have key : ∀ (rest : List Cl) (i : Nat), l.drop i = rest → checkL l = checkL rest → R [(7, .p (.list 8 (encCs l))), (8, .p (.int .i64 (encCs l).length)), (9, .p (.int .i64 i))] H [] := by
    intro rest
    induction rest with
    | nil =>
      intro i hd hq
      have hl := drop_nil hd
      refine hR _ _ _ ?_
      (conv => whnf)
      refine splitB_f (decide_eq_false (by omega)) ?_
      exact ⟨by rw [hq]; rfl, rfl⟩
    | cons c r ihr =>
      intro i hd hq
      obtain ⟨hg, hd', hi⟩ := drop_cons hd
      have hmem := List.mem_of_getElem? hg
      have hfc := hf c hmem
      obtain ⟨k, ⟨o, t, xs⟩, ⟨o2, t2, xs2⟩, b⟩ := c
      have ihc := ih _ _ _ _ hmem
      cases hfc with
      | mk _ _ _ _ hk hft hfv hb _ =>
      have hmt := may_spec _ hft
      have hmv := may_spec _ hfv
      have hex := encs_len xs2
      have heb := encCs_len b
      refine hR _ _ _ ?_
      (conv => whnf)
      refine splitB_t (decide_eq_true (by omega)) ?_
      (conv => whnf)
      refine ⟨rfl, encC (.mk k (.mk o t xs) (.mk o2 t2 xs2) b), ⟨by omega, encCs_get hg⟩, ?_⟩
      have hq2 : checkL l = (checkC (.mk k (.mk o t xs) (.mk o2 t2 xs2) b) && checkL r) := hq
      have bad : checkC (.mk k (.mk o t xs) (.mk o2 t2 xs2) b) = false → errT (checkL l) = 151 := fun e => by rw [hq2, e]; rfl
      have good : checkC (.mk k (.mk o t xs) (.mk o2 t2 xs2) b) = true → checkL l = checkL r := fun e => by rw [hq2, e]; rfl
      have hchk : checkC (.mk k (.mk o t xs) (.mk o2 t2 xs2) b) = ((if k = 2 then mayE (.mk o2 t2 xs2) && decide (b.length = 0) else if k = 3 then (decide (o2 = 0) && (eqS t2 ⟨#[]⟩ && decide (xs2.length = 0))) && checkL b else if k = 1 then (decide (o2 = 0) && (eqS t2 ⟨#[]⟩ && decide (xs2.length = 0))) && decide (b.length = 0) else false) && mayE (.mk o t xs)) := rfl
      repeat' ((conv => whnf); first | refine CallVC.pureF hmt rfl ?_ | refine CallVC.pureF hmv rfl ?_ | refine CallVC.pureF ihc rfl ?_ | refine splitB_t rfl ?_ | refine splitB_f rfl ?_ | (first | refine splitB_t rfl ?_ | refine splitB_f rfl ?_ | refine splitB_dec (fun h => ?_) (fun h => ?_) | refine splitB_eq (fun h => ?_) (fun h => ?_) | refine splitB_ne (fun h => ?_) (fun h => ?_) | refine splitB_intro (fun h => ?_) (fun h => ?_)))
      all_goals (try (conv => whnf))
      all_goals first
        | exact ⟨congrArg (fun n => AV.p (PV.int .i64 n)) (bad (by rw [hchk]; simp_all [eqS, errT_zero])).symm, rfl⟩
        | (rw [IntWalk.i64_in _ (by omega)]; exact ihr (i + 1) hd' (good (by rw [hchk]; simp_all [eqS, errT_zero])))
  exact key l 0 rfl rfl


theorem Check_all (c : Cl) : ∀ k t v b, c = .mk k t v b → FitsC c → pureF Try.prog 14 [.p (.list 8 (encCs b))] (.p (.int .i64 (errT (checkL b)))) := by
  induction c using Cl.ind with
  | h k t v b ih =>
    intro k' t' v' b' e hf
    cases e
    cases hf with
    | mk _ _ _ _ _ _ _ h1 h2 => exact Check_ind b h1 h2 fun k2 t2 v2 b2 hm => ih _ hm k2 t2 v2 b2 rfl (h2 _ hm)

theorem Check_spec (l : List Cl) (hl : (l.length : Int) ≤ 9223372036854775807) (hf : ∀ c, c ∈ l → FitsC c) : pureF Try.prog 14 [.p (.list 8 (encCs l))] (.p (.int .i64 (errT (checkL l)))) :=
  Check_ind l hl hf fun k t v b hm => Check_all _ k t v b rfl (hf _ hm)

/-- The type of any tree, or the error. -/
def ofT (e : Ex) : PV := if mayE e then (if typeT e = 0 then .tup [.int .u8 0, .int .i64 200] else .tup [.int .u8 (typeT e), .int .i64 0]) else .tup [.int .u8 0, .int .i64 151]

theorem ofT_tup (e : Ex) : ∃ a b, ofT e = .tup [.int .u8 a, .int .i64 b] := by
  unfold ofT
  split
  · split <;> exact ⟨_, _, rfl⟩
  · exact ⟨_, _, rfl⟩

theorem refOf_spec (e : Ex) (hf : Fits e) : pureF Try.prog 11 [.p (enc e)] (.p (ofT e)) := by
  refine pureF_of f11_ok fun H => ?_
  have hm := May_spec e hf
  obtain ⟨o, t, xs⟩ := e
  (conv => whnf)
  refine CallVC.pureF hm rfl ?_
  (conv => whnf)
  refine splitB_intro (fun h => ?_) (fun h => ?_)
  · have h : mayE (.mk o t xs) = false := by simpa using h
    exact ⟨by rw [ofT, h]; rfl, rfl⟩
  · have h : mayE (.mk o t xs) = true := by simpa using h
    (conv => whnf)
    refine CallVC.pureF (Type_spec _ (shaped_of _ h)) rfl ?_
    (conv => whnf)
    refine splitB_eq (fun h2 => ?_) (fun h2 => ?_)
    · exact ⟨by rw [ofT, if_pos h, if_pos h2], rfl⟩
    · exact ⟨by rw [ofT, if_pos h, if_neg h2], rfl⟩
theorem Of_spec (e : Ex) (hf : Fits e) : pureF Try.prog 12 [.p (enc e)] (.p (ofT e)) := by
  refine pureF_of f12_ok fun H => ?_
  have hc := Check_spec [.mk 1 e (.mk 0 ⟨#[]⟩ []) []] (by simp) fun c hc => by
    rw [List.mem_singleton] at hc
    subst hc
    exact .mk _ _ _ _ (by decide) hf (.mk _ _ _ (by decide) (by decide) (by decide) fun a ha => by cases ha) (by decide) fun a ha => by cases ha
  have hz : checkL [.mk 1 e (.mk 0 ⟨#[]⟩ []) []] = mayE e := by
    simp [checkL, checkC, zeroE, eqS]
  rw [hz] at hc
  obtain ⟨o, t, xs⟩ := e
  have hle : PV.le (.list 8 [.agg [.int .u8 1, .int .u8 o, .str t, .list 3 (encs xs), .int .u8 0, .str ⟨#[]⟩, .nils, .nils]]) (.list 8 (encCs [.mk 1 (.mk o t xs) (.mk 0 ⟨#[]⟩ []) []])) :=
    .list (.cons _ _ _ _ (.agg (.cons _ _ _ _ (.refl _) (.cons _ _ _ _ (.refl _) (.cons _ _ _ _ (.refl _) (.cons _ _ _ _ (.refl _) (.cons _ _ _ _ (.refl _) (.cons _ _ _ _ (.refl _) (.cons _ _ _ _ (.nils 3) (.cons _ _ _ _ (.nils 8) .nil))))))))) .nil)
  (conv => whnf)
  refine CallVC.pureF (hc.args (.p _ _ _ _ hle .nil)) rfl ?_
  (conv => whnf)
  cases h : mayE (.mk o t xs) with
  | false =>
    refine splitB_t rfl ?_
    exact ⟨by rw [ofT, h]; rfl, rfl⟩
  | true =>
    refine splitB_f rfl ?_
    (conv => whnf)
    refine CallVC.pureF (typed_spec _ (shaped_of _ h)) rfl ?_
    (conv => whnf)
    refine splitB_eq (fun h2 => ?_) (fun h2 => ?_)
    · exact ⟨by rw [ofT, if_pos h, if_pos h2], rfl⟩
    · exact ⟨by rw [ofT, if_pos h, if_neg h2], rfl⟩
theorem works_spec : pureF Try.prog 9 [] (.p (.bool true)) := by
  refine pureF_of f9_ok fun H => ?_
  have hf : Fits (.mk 6 ⟨#[]⟩ [.mk 2 ⟨#[97]⟩ []]) := .mk _ _ _ (by decide) (by decide) (by decide) fun a ha => by
    rw [List.mem_singleton] at ha
    subst ha
    exact .mk _ _ _ (by decide) (by decide) (by decide) fun a ha => by cases ha
  have ho : ofT (.mk 6 ⟨#[]⟩ [.mk 2 ⟨#[97]⟩ []]) = .tup [.int .u8 2, .int .i64 0] := by
    have h1 : mayE (.mk 6 ⟨#[]⟩ [.mk 2 ⟨#[97]⟩ []]) = true := by
      simp [mayE, mayL, textOk, arityI, eqS, nameB, letterB, ba_toList]
    rw [ofT, if_pos h1]
    rfl
  have hle : PV.le (.agg [.int .u8 6, .str ⟨#[]⟩, .list 3 [.agg [.int .u8 2, .str ⟨#[97]⟩, .nils]]]) (enc (.mk 6 ⟨#[]⟩ [.mk 2 ⟨#[97]⟩ []])) :=
    .agg (.cons _ _ _ _ (.refl _) (.cons _ _ _ _ (.refl _) (.cons _ _ _ _ (.list (.cons _ _ _ _ (.agg (.cons _ _ _ _ (.refl _) (.cons _ _ _ _ (.refl _) (.cons _ _ _ _ (.nils 3) .nil)))) .nil)) .nil)))
  have hs := (Of_spec _ hf).args (.p _ _ _ _ hle .nil)
  rw [ho] at hs
  (conv => whnf)
  refine CallVC.pureF hs rfl ?_
  (conv => whnf)
  refine splitB_t rfl ?_
  exact ⟨rfl, rfl⟩

theorem TypesOf_spec (e : Ex) (hf : Fits e) : pureF Try.prog 3 [.p (enc e)] (.p (.bool true)) := by
  refine pureF_of f3_ok fun H => ?_
  have hs := Size_spec e 20000 (by omega) (by omega)
  have hl := LentExpr_spec e
  have hk := KeptExpr_spec e
  have hr := refOf_spec e hf
  have ho := (Of_spec e hf).args (.p _ _ _ _ (encT_le e) .nil)
  have few := few_of e 20000 (by omega)
  have hw := works_spec
  obtain ⟨ty, er, hty⟩ := ofT_tup e
  rw [hty] at hr ho
  obtain ⟨o, t, xs⟩ := e
  (conv => whnf)
  refine CallVC.pureF hs rfl ?_
  (conv => whnf)
  refine splitB_dec (fun h => ?_) (fun h => ?_)
  · (conv => whnf)
    refine CallVC.pureF hw rfl ?_
    exact ⟨rfl, rfl⟩
  · have few := few (by omega)
    (conv => whnf)
    refine CallVC.pureF (hl few) rfl ?_
    (conv => whnf)
    refine CallVC.pureF hr rfl ?_
    (conv => whnf)
    refine CallVC.pureF ho rfl ?_
    (conv => whnf)
    refine splitB_t (beq_self_eq_true _) ?_
    (conv => whnf)
    refine splitB_t (beq_self_eq_true _) ?_
    (conv => whnf)
    refine CallVC.pureF (hk few) rfl ?_
    (conv => whnf)
    refine splitB_t rfl ?_
    (conv => whnf)
    refine CallVC.pureF hw rfl ?_
    exact ⟨rfl, rfl⟩
end Go.Proofs.Ytaanmljlbhkonaa.AD

namespace Go.Proofs.Ytaanmljlbhkonaa.AD
open Go.Proofs
set_option linter.unusedVariables false
set_option linter.unusedSimpArgs false
set_option maxRecDepth 100000

theorem CallD.same {P : Program} {f : Nat} {args : List AV} {os rest lo : List Ob} {K : AV → List Ob → List Ob → Prop} {r : PV} (h : Meth P f args os r os) (ha : AV.closes (os ++ rest).length args = args) (k : K (.p r) (os ++ rest) lo) : CallD P f args (os ++ rest) lo K :=
  ⟨r, fun X => by
    rw [ha]
    have e1 : flat (os ++ rest) lo ++ X = os ++ (rest ++ lo.map (Ob.close (os ++ rest).length) ++ X) := by simp [flat, List.append_assoc]
    rw [e1]; exact h _, k⟩

section
variable (L : List Tok) (en : Nat) (rec : RR) (recP : RS → Option (List Cl × RS))
def clauseR (st : RS) : Option (Cl × RS) := match rec 0 st with
  | none => none
  | some (e, st1) =>
    if isR L st1 ⟨#[45, 62]⟩ = true then (if isR L (advR st1) ⟨#[123]⟩ = true then (if (advR st1).deep = 64 then some (.mk 3 e zeroE0 [], failR L en (advR st1) 3) else match recP (downR L en (advR st1)) with
        | none => none
        | some (l, st3) => some (.mk 3 e zeroE0 l, mustR L en (upR' (mustR L en st3 ⟨#[125]⟩)) ⟨#[59]⟩))
      else match rec 4 (advR st1) with
        | none => none
        | some (v, st3) => some (.mk 2 e v [], mustR L en st3 ⟨#[59]⟩))
    else some (.mk 1 e zeroE0 [], mustR L en st1 ⟨#[59]⟩)
def goesOn (st : RS) : Bool := decide (st.wrong = 0) && (decide (st.a < L.length) && !isR L st ⟨#[125]⟩)
def progLoop (cl : RS → Option (Cl × RS)) : Nat → List Cl → RS → Option (List Cl × RS)
  | 0, _, _ => none
  | k + 1, acc, st => if goesOn L st = true then (match cl st with
    | none => none
    | some (c, st') => progLoop cl k (acc ++ [c]) st') else some (acc, st)
end
def progR (L : List Tok) (en : Nat) (m : Nat) : Nat → RS → Option (List Cl × RS)
  | 0, _ => none
  | k + 1, st => progLoop L (clauseR L en (lineR L en m) (progR L en m k)) 9000 [] st

def OkayC (L : List Tok) (en : Nat) (cl : RS → Option (Cl × RS)) : Prop := ∀ (st : RS) (c : Cl) (st' : RS), Good L st → cl st = some (c, st') →
  (Good L st' ∧ st'.deep = st.deep) ∧ Meth Try.prog 56 [.ref (.b 0) 0] (rsO L en st) (encC c) (rsO L en st')
def OkayP (L : List Tok) (en : Nat) (pr : RS → Option (List Cl × RS)) : Prop := ∀ (st : RS) (l : List Cl) (st' : RS), Good L st → pr st = some (l, st') →
  (Good L st' ∧ st'.deep = st.deep) ∧ Meth Try.prog 33 [.ref (.b 0) 0] (rsO L en st) (.list 8 (encCs l)) (rsO L en st')

theorem cl_le (k o : Int) (t : ByteArray) (x : List PV) (o2 : Int) (t2 : ByteArray) (y : PV) (z : PV) {xs xs2 : List Ex} {b : List Cl} (hx : x = encs xs) (hy : y.le (.list 3 (encs xs2))) (hz : z.le (.list 8 (encCs b))) :
    PV.le (.agg [.int .u8 k, .int .u8 o, .str t, .list 3 x, .int .u8 o2, .str t2, y, z]) (encC (.mk k (.mk o t xs) (.mk o2 t2 xs2) b)) := by
  subst hx
  exact .agg (.cons _ _ _ _ (.refl _) (.cons _ _ _ _ (.refl _) (.cons _ _ _ _ (.refl _) (.cons _ _ _ _ (.refl _) (.cons _ _ _ _ (.refl _) (.cons _ _ _ _ (.refl _) (.cons _ _ _ _ hy (.cons _ _ _ _ hz .nil))))))))

theorem clause_okay {L : List Tok} {en : Nat} {rec : RR} {recP : RS → Option (List Cl × RS)} (hL : L.length ≤ 8192) (ok : Okay L en rec) (okP : OkayP L en recP) : OkayC L en (clauseR L en rec recP) := by
  intro st c st' hg h
  unfold clauseR at h
  split at h
  · cases h
  rename_i e1 st1 h1
  obtain ⟨⟨g1, d1⟩, m1⟩ := ok 0 st e1 st1 (by omega) hg h1
  have hi1 := is_spec L hL en st1 ⟨#[45, 62]⟩
  obtain ⟨o1, t1, xs1⟩ := e1
  cases hA : isR L st1 ⟨#[45, 62]⟩ with
  | false =>
    rw [hA] at h hi1
    rw [if_neg (by simp)] at h
    cases h
    have hmu := must_spec L hL en st1 ⟨#[59]⟩
    obtain ⟨g2, d2⟩ := mustR_good (en := en) (s := ⟨#[59]⟩) g1
    refine ⟨⟨g2, d2.trans d1⟩, Meth.ofLe f56_ok fun rest => ?_⟩
    (conv => whnf)
    refine CallVC.same m1 rfl rfl rfl ?_
    (conv => whnf)
    refine CallVC.same hi1 rfl rfl rfl ?_
    repeat' ((conv => whnf); first | refine splitB_t rfl ?_ | refine splitB_f rfl ?_ | done)
    (conv => whnf)
    refine CallVC.same hmu rfl rfl rfl ?_
    (conv => whnf)
    exact ⟨⟨_, rfl, cl_le _ _ _ _ _ _ _ _ rfl (.nils 3) (.nils 8)⟩, rfl⟩
  | true =>
    rw [hA] at h hi1
    rw [if_pos rfl] at h
    have ha1 := isR_lt hA
    have hi2 := is_spec L hL en (advR st1) ⟨#[123]⟩
    have g2 : Good L (advR st1) := ⟨ha1, g1.2⟩
    have b1 : st1.a ≤ 8192 := by have := g1.1; omega
    cases hB : isR L (advR st1) ⟨#[123]⟩ with
    | false =>
      rw [hB] at h hi2
      rw [if_neg (by simp)] at h
      split at h
      · cases h
      rename_i v st3 h3
      cases h
      obtain ⟨⟨g3, d3⟩, m3⟩ := ok 4 (advR st1) v st3 (by omega) g2 h3
      have hmu := must_spec L hL en st3 ⟨#[59]⟩
      obtain ⟨g4, d4⟩ := mustR_good (en := en) (s := ⟨#[59]⟩) g3
      refine ⟨⟨g4, d4.trans (d3.trans d1)⟩, Meth.ofLe f56_ok fun rest => ?_⟩
      obtain ⟨o2, t2, xs2⟩ := v
      (conv => whnf)
      refine CallVC.same m1 rfl rfl rfl ?_
      (conv => whnf)
      refine CallVC.same hi1 rfl rfl rfl ?_
      repeat' ((conv => whnf); first | refine splitB_t rfl ?_ | refine splitB_f rfl ?_ | done)
      (conv => whnf)
      rw [IntWalk.i64_in _ (by omega)]
      refine CallVC.same hi2 rfl rfl rfl ?_
      repeat' ((conv => whnf); first | refine splitB_t rfl ?_ | refine splitB_f rfl ?_ | done)
      (conv => whnf)
      refine CallVC.same m3 rfl rfl rfl ?_
      (conv => whnf)
      refine CallVC.same hmu rfl rfl rfl ?_
      (conv => whnf)
      exact ⟨⟨_, rfl, cl_le _ _ _ _ _ _ _ _ rfl (.refl _) (.nils 8)⟩, rfl⟩
    | true =>
      rw [hB] at h hi2
      rw [if_pos rfl] at h
      have ha2 := isR_lt hB
      have hdn := down_spec L hL en (advR st1) g2.1 g2.2
      split at h
      · rename_i hd
        cases h
        have e1 : downR L en (advR st1) = failR L en (advR st1) 3 := by unfold downR; rw [if_pos hd]
        rw [e1, decide_eq_false (by simp [hd])] at hdn
        refine ⟨⟨(failR_good g2).1, (failR_good g2).2.trans d1⟩, Meth.ofLe f56_ok fun rest => ?_⟩
        (conv => whnf)
        refine CallVC.same m1 rfl rfl rfl ?_
        (conv => whnf)
        refine CallVC.same hi1 rfl rfl rfl ?_
        repeat' ((conv => whnf); first | refine splitB_t rfl ?_ | refine splitB_f rfl ?_ | done)
        (conv => whnf)
        rw [IntWalk.i64_in _ (by omega)]
        refine CallVC.same hi2 rfl rfl rfl ?_
        repeat' ((conv => whnf); first | refine splitB_t rfl ?_ | refine splitB_f rfl ?_ | done)
        (conv => whnf)
        refine CallVC.same hdn rfl rfl rfl ?_
        repeat' ((conv => whnf); first | refine splitB_t rfl ?_ | refine splitB_f rfl ?_ | done)
        (conv => whnf)
        exact ⟨⟨_, rfl, cl_le _ _ _ _ _ _ _ _ rfl (.nils 3) (.nils 8)⟩, rfl⟩
      · rename_i hd
        rw [decide_eq_true hd] at hdn
        obtain ⟨e1, g3⟩ := downR_good (en := en) g2 ha2 hd
        split at h
        · cases h
        rename_i l st3 h3
        cases h
        obtain ⟨⟨g4, d4⟩, m4⟩ := okP _ l st3 g3 h3
        have hmu := must_spec L hL en st3 ⟨#[125]⟩
        obtain ⟨g5, d5⟩ := mustR_good (en := en) (s := ⟨#[125]⟩) g4
        have d6 : (advR st1).deep = st.deep := d1
        have d7 : st3.deep = st.deep + 1 := by rw [d4, e1, ← d6]
        have g6 : Good L (upR' (mustR L en st3 ⟨#[125]⟩)) := ⟨g5.1, by have := g5.2; simp only [upR']; omega⟩
        have d8 : (upR' (mustR L en st3 ⟨#[125]⟩)).deep = st.deep := by simp only [upR']; omega
        have d9 : (((mustR L en st3 ⟨#[125]⟩).deep : Int) - 1) = ((upR' (mustR L en st3 ⟨#[125]⟩)).deep : Nat) := by simp only [upR']; omega
        have hmu2 := must_spec L hL en (upR' (mustR L en st3 ⟨#[125]⟩)) ⟨#[59]⟩
        obtain ⟨g7, d10⟩ := mustR_good (en := en) (s := ⟨#[59]⟩) g6
        have h64 := g5.2
        refine ⟨⟨g7, d10.trans d8⟩, Meth.ofLe f56_ok fun rest => ?_⟩
        (conv => whnf)
        refine CallVC.same m1 rfl rfl rfl ?_
        (conv => whnf)
        refine CallVC.same hi1 rfl rfl rfl ?_
        repeat' ((conv => whnf); first | refine splitB_t rfl ?_ | refine splitB_f rfl ?_ | done)
        (conv => whnf)
        rw [IntWalk.i64_in _ (by omega)]
        refine CallVC.same hi2 rfl rfl rfl ?_
        repeat' ((conv => whnf); first | refine splitB_t rfl ?_ | refine splitB_f rfl ?_ | done)
        (conv => whnf)
        refine CallVC.same hdn rfl rfl rfl ?_
        repeat' ((conv => whnf); first | refine splitB_t rfl ?_ | refine splitB_f rfl ?_ | done)
        (conv => whnf)
        refine CallVC.same m4 rfl rfl rfl ?_
        (conv => whnf)
        refine CallVC.same hmu rfl rfl rfl ?_
        (conv => whnf)
        rw [IntWalk.i64_in _ (by omega), d9]
        refine CallVC.same hmu2 rfl rfl rfl ?_
        (conv => whnf)
        exact ⟨⟨_, rfl, cl_le _ _ _ _ _ _ _ _ rfl (.nils 3) (.refl _)⟩, rfl⟩

end Go.Proofs.Ytaanmljlbhkonaa.AD

namespace Go.Proofs.Ytaanmljlbhkonaa.AD
open Go.Proofs
set_option linter.unusedVariables false
set_option linter.unusedSimpArgs false
set_option maxRecDepth 100000

theorem encCs_app (a b : List Cl) : encCs (a ++ b) = encCs a ++ encCs b := by rw [encCs_map, encCs_map, encCs_map, List.map_append]
theorem program_okay {L : List Tok} {en : Nat} {cl : RS → Option (Cl × RS)} (hL : L.length ≤ 8192) (ok : OkayC L en cl) : OkayP L en (progLoop L cl 9000 []) := by
  intro st l st' hg h
  have hloop : ∀ (k : Nat) (acc : List Cl) (st1 : RS), Good L st1 → st1.deep = st.deep → progLoop L cl k acc st1 = some (l, st') → Good L st' ∧ st'.deep = st.deep := by
    intro k
    induction k with
    | zero => intro acc st1 _ _ h; cases h
    | succ k ih =>
      intro acc st1 g1 d1 h
      simp only [progLoop] at h
      split at h
      · split at h
        · cases h
        · rename_i c st2 h2
          obtain ⟨⟨g2, d2⟩, _⟩ := ok st1 c st2 g1 h2
          exact ih _ _ g2 (d2.trans d1) h
      · cases h; exact ⟨g1, d1⟩
  refine ⟨hloop _ _ _ hg rfl h, ?_⟩
  clear hloop
  refine Meth.of f33_ok fun rest => ?_
  have hml : (L.map tkP).length = L.length := List.length_map _
  (conv => whnf)
  intro R hR
  have key : ∀ (k : Nat) (acc : List Cl) (g : Nat) (st1 : RS), Good L st1 → acc.length + k ≤ 9000 → progLoop L cl k acc st1 = some (l, st') →
      R [(0, .ref (.b 0) 0), (3, .view (.l 0) g 8 acc.length)] (rsO L en st1 ++ rest) [.buf g 8 (encCs acc)] := by
    intro k
    induction k with
    | zero => intro acc g st1 _ _ h; cases h
    | succ k ih =>
      intro acc g st1 g1 hk h
      have hal := encCs_len acc
      simp only [progLoop] at h
      have stop : goesOn L st1 = false → l = acc ∧ st' = st1 := fun hb => by
        rw [if_neg (by rw [hb]; simp)] at h
        cases h; exact ⟨rfl, rfl⟩
      have hi1 := is_spec L hL en st1 ⟨#[125]⟩
      refine hR _ _ _ ?_
      (conv => whnf)
      refine splitB_eq (fun h0 => ?_) (fun h0 => ?_)
      rotate_left
      · obtain ⟨rfl, rfl⟩ := stop (by rw [goesOn, decide_eq_false h0]; rfl)
        repeat' ((conv => whnf); first | refine splitB_t rfl ?_ | refine splitB_f rfl ?_ | done)
        (conv => whnf)
        exact ⟨⟨rfl, rfl⟩, .inl ⟨encCs l, by omega, List.take_of_length_le (by omega), rfl, rfl⟩⟩
      (conv => whnf)
      refine splitB_dec (fun h1 => ?_) (fun h1 => ?_)
      rotate_left
      · obtain ⟨rfl, rfl⟩ := stop (by rw [goesOn, decide_eq_false (by omega : ¬ st1.a < L.length)]; simp)
        repeat' ((conv => whnf); first | refine splitB_t rfl ?_ | refine splitB_f rfl ?_ | done)
        (conv => whnf)
        exact ⟨⟨rfl, rfl⟩, .inl ⟨encCs l, by omega, List.take_of_length_le (by omega), rfl, rfl⟩⟩
      (conv => whnf)
      refine CallD.same hi1 rfl ?_
      cases hb : isR L st1 ⟨#[125]⟩ with
      | true =>
        obtain ⟨rfl, rfl⟩ := stop (by rw [goesOn, hb]; simp)
        repeat' ((conv => whnf); first | refine splitB_t rfl ?_ | refine splitB_f rfl ?_ | done)
        (conv => whnf)
        exact ⟨⟨rfl, rfl⟩, .inl ⟨encCs l, by omega, List.take_of_length_le (by omega), rfl, rfl⟩⟩
      | false =>
        rw [if_pos (by rw [goesOn, decide_eq_true h0, decide_eq_true (by omega : st1.a < L.length), hb]; rfl)] at h
        split at h
        · cases h
        rename_i c st2 h2
        obtain ⟨⟨g2, d2⟩, m2⟩ := ok st1 c st2 g1 h2
        obtain ⟨kk, ⟨o, t, xs⟩, ⟨o2, t2, xs2⟩, b⟩ := c
        repeat' ((conv => whnf); first | refine splitB_t rfl ?_ | refine splitB_f rfl ?_ | done)
        (conv => whnf)
        refine CallVC.same m2 rfl rfl rfl ?_
        (conv => whnf)
        refine ⟨rfl, ?_⟩
        (conv => whnf)
        refine ⟨⟨rfl, rfl, rfl, by omega⟩, by simp only [room]; simp; omega, encCs (acc ++ [.mk kk (.mk o t xs) (.mk o2 t2 xs2) b]), by rw [List.take_of_length_le (by omega), encCs_app]; rfl, ?_⟩
        (conv => whnf)
        have q := ih (acc ++ [.mk kk (.mk o t xs) (.mk o2 t2 xs2) b]) (g + 1) st2 g2 (by rw [List.length_append]; simp only [List.length_cons, List.length_nil]; omega) h
        rw [List.length_append] at q
        exact q
  exact key 9000 [] 0 st hg (by simp) h

theorem progR_okay {L : List Tok} (en : Nat) (hL : L.length ≤ 8192) (m : Nat) : ∀ k, OkayP L en (progR L en m k)
  | 0 => fun st l st' _ h => by cases h
  | k + 1 => program_okay hL (clause_okay hL (line_okay en hL m) (progR_okay en hL m k))

/-- A body's clauses. -/
def parseR (s : ByteArray) (m k : Nat) : Option (List Cl × Int × Int) := match tokensR s with
  | .err p e => some ([], p, e)
  | .ok L => match progR L s.size m k ⟨0, 0, 0, 0⟩ with
    | none => none
    | some (l, st) => let st2 := if st.a < L.length then failR L s.size st 150 else st
      if st2.wrong = 0 then some (l, 0, 0) else some ([], st2.place, st2.wrong)

theorem Parse_spec' (s : ByteArray) (hsz : (s.size : Int) ≤ 9223372036854775807) (m k : Nat) (l : List Cl) (p w : Int) (h : parseR s m k = some (l, p, w)) : pureF Try.prog 22 [.p (.str s)] (.p (.tup [.list 8 (encCs l), .int .i64 p, .int .i64 w])) := by
  refine pureF.ofLe f22_ok fun H => ?_
  have hT := rTokens_spec s hsz
  unfold parseR at h
  cases hR : tokensR s with
  | err q er =>
    rw [hR] at h hT
    cases h
    have he := (tokensR_err hR).1
    (conv => whnf)
    refine CallVC.pureF hT rfl ?_
    (conv => whnf)
    refine splitB_t (by rcases he with rfl | rfl | rfl | rfl <;> rfl) ?_
    (conv => whnf)
    exact ⟨⟨_, rfl, tup_le (.nils 8) _ _⟩, rfl⟩
  | ok L =>
    rw [hR] at h hT
    simp only at h
    have hL := tokens_le hR
    have hml : (L.map tkP).length = L.length := List.length_map _
    split at h
    · cases h
    rename_i l1 st h1
    obtain ⟨⟨g1, d1⟩, m1⟩ := progR_okay s.size hL m k _ l1 st ⟨by simp, by simp⟩ h1
    have hfl := fail_spec L hL s.size st 150
    (conv => whnf)
    refine CallVC.pureF hT rfl ?_
    (conv => whnf)
    refine splitB_f rfl ?_
    (conv => whnf)
    refine CallVC.methF [] [] m1 rfl rfl rfl rfl rfl rfl ?_
    have last : ∀ st2 : RS, (if st2.wrong = 0 then some ((l1, 0, 0) : List Cl × Int × Int) else some ([], st2.place, st2.wrong)) = some (l, p, w) →
        W Try.prog f22.c20 [(8, .ref (.l 0) 0), (9, .p (.list 8 (encCs l1)))] H ([] ++ rsO L s.size st2 ++ [])
          (endQ f22 fun r' H' => (∃ p_1, r' = .p p_1 ∧ p_1.le (.tup [.list 8 (encCs l), .int .i64 p, .int .i64 w])) ∧ H' = H) := by
      intro st2 hw
      split at hw
      · rename_i h0
        cases hw
        (conv => whnf)
        refine splitB_f (bne_eq_false_iff_eq.2 h0) ?_
        (conv => whnf)
        exact ⟨⟨_, rfl, .refl _⟩, rfl⟩
      · rename_i h0
        cases hw
        (conv => whnf)
        refine splitB_t (bne_iff_ne.2 h0) ?_
        (conv => whnf)
        repeat' (first | exact ⟨⟨_, rfl, tup_le (.nils 8) _ _⟩, rfl⟩ | (refine ⟨rfl, ?_⟩; (conv => whnf)))
    (conv => whnf)
    refine splitB_dec (fun h2 => ?_) (fun h2 => ?_)
    · have hlt : st.a < L.length := by omega
      simp only [if_pos hlt] at h
      (conv => whnf)
      refine CallVC.methF [] [] hfl rfl rfl rfl rfl rfl rfl ?_
      have q := last _ h
      (conv at q => whnf)
      (conv => whnf)
      exact q
    · have hlt : ¬ st.a < L.length := by omega
      simp only [if_neg hlt] at h
      have q := last _ h
      (conv at q => whnf)
      (conv => whnf)
      exact q

end Go.Proofs.Ytaanmljlbhkonaa.AD

namespace Go.Proofs.Ytaanmljlbhkonaa.AD
open Go.Proofs
set_option linter.unusedVariables false
set_option linter.unusedSimpArgs false
set_option maxRecDepth 100000

/-- What is reached behind a test and a value. -/
def sizeTV (t v : Ex) (most n : Int) : Int :=
  if n + 1 + size t (most - n) ≤ most then n + 1 + size t (most - n) + size v (most - (n + 1 + size t (most - n))) else n + 1 + size t (most - n)
mutual
def sizeC : Cl → Int → Int → Int
  | .mk _ t v b, most, n => if sizeTV t v most n ≤ most then sizeTV t v most n + sizeCs b (most - sizeTV t v most n) 0 else sizeTV t v most n
def sizeCs : List Cl → Int → Int → Int
  | [], most, n => n
  | c :: r, most, n => if n ≤ most then sizeCs r most (sizeC c most n) else n
end

theorem sizeTV_le (t v : Ex) (most n : Int) (h : n ≤ most) : n + 2 ≤ sizeTV t v most n ∧ sizeTV t v most n ≤ most + 2 := by
  have h1 := sizes_le.1 t (most - n)
  have h2 := sizes_le.1 v (most - (n + 1 + size t (most - n)))
  simp only [sizeTV]
  split <;> omega

theorem sizeCs_ge : (∀ c most n, n ≤ most → n + 2 ≤ sizeC c most n ∧ sizeC c most n ≤ most + 2) ∧ ∀ l most n, n ≤ sizeCs l most n ∧ (sizeCs l most n ≤ n ∨ sizeCs l most n ≤ most + 2) := by
  have main : ∀ l : List Cl, (∀ c, c ∈ l → ∀ most n, n ≤ most → n + 2 ≤ sizeC c most n ∧ sizeC c most n ≤ most + 2) → ∀ most n, n ≤ sizeCs l most n ∧ (sizeCs l most n ≤ n ∨ sizeCs l most n ≤ most + 2) := by
    intro l
    induction l with
    | nil => intro _ most n; simp only [sizeCs]; omega
    | cons c r ih =>
      intro h most n
      simp only [sizeCs]
      split
      · rename_i hn
        have h1 := h c (by simp) most n hn
        have h2 := ih (fun c hc => h c (by simp [hc])) most (sizeC c most n)
        omega
      · omega
  have one : ∀ c most n, n ≤ most → n + 2 ≤ sizeC c most n ∧ sizeC c most n ≤ most + 2 := by
    intro c
    induction c using Cl.ind with
    | h k t v b ih =>
      intro most n hn
      have h1 := sizeTV_le t v most n hn
      have h2 := main b ih (most - sizeTV t v most n) 0
      simp only [sizeC]
      split <;> omega
  exact ⟨one, fun l => main l fun c _ => one c⟩

theorem Sizes_ind (l : List Cl) (ih : ∀ k t v b, Cl.mk k t v b ∈ l → ∀ most : Int, 0 ≤ most → most ≤ 4611686018427387904 → pureF Try.prog 16 [.p (.list 8 (encCs b)), .p (.int .i64 most)] (.p (.int .i64 (sizeCs b most 0)))) (most : Int) (h1 : 0 ≤ most) (h2 : most ≤ 4611686018427387904) :
    pureF Try.prog 16 [.p (.list 8 (encCs l)), .p (.int .i64 most)] (.p (.int .i64 (sizeCs l most 0))) := by
  have he := encCs_len l
  refine pureF_of f16_ok fun H => ?_
  (conv => whnf)
  intro R hR
  have key : ∀ (rest : List Cl) (i : Nat) (n : Int), l.drop i = rest → (i : Int) ≤ n → n ≤ most + 2 → sizeCs rest most n = sizeCs l most 0 → R [(0, .p (.list 8 (encCs l))), (1, .p (.int .i64 most)), (5, .p (.int .i64 n)), (6, .p (.int .i64 i))] H [] := by
    intro rest
    induction rest with
    | nil =>
      intro i n hd hn hb hs
      have hl := drop_nil hd
      refine hR _ _ _ ?_
      (conv => whnf)
      refine splitB_f (decide_eq_false (by omega)) ?_
      exact ⟨by rw [← hs]; rfl, rfl⟩
    | cons c r ihr =>
      intro i n hd hn hb hs
      obtain ⟨hg, hd', hi⟩ := drop_cons hd
      refine hR _ _ _ ?_
      (conv => whnf)
      refine splitB_t (decide_eq_true (by omega)) ?_
      (conv => whnf)
      refine splitB_dec (fun h3 => ?_) (fun h3 => ?_)
      · have hmem := List.mem_of_getElem? hg
        have hrest : sizeCs (c :: r) most n = sizeCs r most (sizeC c most n) := by simp only [sizeCs, if_pos h3]
        have hlim := sizeCs_ge.1 c most n h3
        obtain ⟨k, ⟨o, t, xs⟩, ⟨o2, t2, xs2⟩, b⟩ := c
        have ihc := ih _ _ _ _ hmem
        have hst := Size_spec (.mk o t xs)
        have hsv := Size_spec (.mk o2 t2 xs2)
        have g1 := sizes_le.1 (.mk o t xs) (most - n)
        have hC : sizeC (.mk k (.mk o t xs) (.mk o2 t2 xs2) b) most n = if sizeTV (.mk o t xs) (.mk o2 t2 xs2) most n ≤ most then sizeTV (.mk o t xs) (.mk o2 t2 xs2) most n + sizeCs b (most - sizeTV (.mk o t xs) (.mk o2 t2 xs2) most n) 0 else sizeTV (.mk o t xs) (.mk o2 t2 xs2) most n := rfl
        have hTVle := sizeTV_le (.mk o t xs) (.mk o2 t2 xs2) most n h3
        generalize hTV : sizeTV (.mk o t xs) (.mk o2 t2 xs2) most n = tv at hC hTVle
        (conv => whnf)
        refine ⟨rfl, encC (.mk k (.mk o t xs) (.mk o2 t2 xs2) b), ⟨by omega, encCs_get hg⟩, ?_⟩
        (conv => whnf)
        rw [IntWalk.i64_in (most - n) (by omega)]
        refine CallVC.pureF (hst (most - n) (by omega) (by omega)) rfl ?_
        generalize hn1 : size (.mk o t xs) (most - n) = s1 at g1
        have e1 : tv = if n + 1 + s1 ≤ most then n + 1 + s1 + size (.mk o2 t2 xs2) (most - (n + 1 + s1)) else n + 1 + s1 := by rw [← hTV, sizeTV, hn1]
        (conv => whnf)
        rw [IntWalk.i64_in (n + 1) (by omega), IntWalk.i64_in (n + 1 + s1) (by omega)]
        refine splitB_dec (fun h4 => ?_) (fun h4 => ?_)
        · have g2 := sizes_le.1 (.mk o2 t2 xs2) (most - (n + 1 + s1))
          rw [if_pos h4] at e1
          (conv => whnf)
          refine ⟨rfl, encC (.mk k (.mk o t xs) (.mk o2 t2 xs2) b), ⟨by omega, encCs_get hg⟩, ?_⟩
          (conv => whnf)
          rw [IntWalk.i64_in (most - (n + 1 + s1)) (by omega)]
          refine CallVC.pureF (hsv (most - (n + 1 + s1)) (by omega) (by omega)) rfl ?_
          generalize hn2 : size (.mk o2 t2 xs2) (most - (n + 1 + s1)) = s2 at g2 e1
          (conv => whnf)
          rw [IntWalk.i64_in (n + 1 + s1 + s2) (by omega), ← e1]
          refine splitB_dec (fun h5 => ?_) (fun h5 => ?_)
          · have g3 := sizeCs_ge.2 b (most - tv) 0
            rw [if_pos h5] at hC
            (conv => whnf)
            refine ⟨rfl, encC (.mk k (.mk o t xs) (.mk o2 t2 xs2) b), ⟨by omega, encCs_get hg⟩, ?_⟩
            (conv => whnf)
            rw [IntWalk.i64_in (most - tv) (by omega)]
            refine CallVC.pureF (ihc (most - tv) (by omega) (by omega)) rfl ?_
            (conv => whnf)
            rw [IntWalk.i64_in _ (by omega), IntWalk.i64_in _ (by omega), ← hC]
            exact ihr (i + 1) _ hd' (by omega) (by omega) (by rw [← hs, hrest])
          · rw [if_neg h5] at hC
            (conv => whnf)
            rw [IntWalk.i64_in _ (by omega), ← hC]
            exact ihr (i + 1) _ hd' (by omega) (by omega) (by rw [← hs, hrest])
        · rw [if_neg h4] at e1
          (conv => whnf)
          rw [← e1]
          refine splitB_f (decide_eq_false (by omega)) ?_
          rw [if_neg (by omega)] at hC
          (conv => whnf)
          rw [IntWalk.i64_in _ (by omega), ← hC]
          exact ihr (i + 1) _ hd' (by omega) (by omega) (by rw [← hs, hrest])
      · exact ⟨by rw [← hs]; simp only [sizeCs, if_neg h3], rfl⟩
  exact key l 0 0 rfl (by omega) (by omega) rfl

theorem Sizes_all (c : Cl) : ∀ k t v b, c = .mk k t v b → ∀ most : Int, 0 ≤ most → most ≤ 4611686018427387904 → pureF Try.prog 16 [.p (.list 8 (encCs b)), .p (.int .i64 most)] (.p (.int .i64 (sizeCs b most 0))) := by
  induction c using Cl.ind with
  | h k t v b ih =>
    intro k' t' v' b' e most h1 h2
    cases e
    exact Sizes_ind b (fun k2 t2 v2 b2 hm => ih _ hm k2 t2 v2 b2 rfl) most h1 h2
theorem Sizes_spec (l : List Cl) (most : Int) (h1 : 0 ≤ most) (h2 : most ≤ 4611686018427387904) : pureF Try.prog 16 [.p (.list 8 (encCs l)), .p (.int .i64 most)] (.p (.int .i64 (sizeCs l most 0))) :=
  Sizes_ind l (fun k t v b hm => Sizes_all _ k t v b rfl) most h1 h2
/-- No row is long. -/
inductive FewC : Cl → Prop
  | mk (k : Int) (t v : Ex) (b : List Cl) : Few t → Few v → b.length ≤ 20000 → (∀ c, c ∈ b → FewC c) → FewC (.mk k t v b)

theorem fewC_all : ∀ c : Cl, ∀ most n : Int, most ≤ 20000 → 0 ≤ n → n ≤ most → sizeC c most n ≤ most → FewC c := by
  intro c
  induction c using Cl.ind with
  | h k t v b ih =>
    intro most n hm h0 hn h
    have main : ∀ (l : List Cl) (m n : Int), (∀ c, c ∈ l → c ∈ b) → m ≤ 20000 → 0 ≤ n → sizeCs l m n ≤ m → n + l.length ≤ m ∧ ∀ c, c ∈ l → FewC c := by
      intro l
      induction l with
      | nil => intro m n _ _ _ h; simp only [sizeCs] at h; exact ⟨by simpa using h, fun c hc => by cases hc⟩
      | cons c r ihr =>
        intro m n hl hm h0 h
        simp only [sizeCs] at h
        split at h
        · rename_i h2
          have h3 := sizeCs_ge.1 c m n h2
          have h4 := sizeCs_ge.2 r m (sizeC c m n)
          obtain ⟨h6, h7⟩ := ihr m _ (fun d hd => hl d (by simp [hd])) hm (by omega) h
          refine ⟨by simp; omega, fun d hd => ?_⟩
          cases hd with
          | head => exact ih c (hl c (by simp)) m n hm h0 h2 (by omega)
          | tail _ hd => exact h7 d hd
        · omega
    have h1 := sizeTV_le t v most n hn
    simp only [sizeC] at h
    split at h
    · rename_i h2
      obtain ⟨h3, h4⟩ := main b (most - sizeTV t v most n) 0 (fun c hc => hc) (by omega) (by omega) (by omega)
      simp only [sizeTV] at h2 h3
      have g1 := sizes_le.1 t (most - n)
      split at h2
      · rename_i h5
        have g2 := sizes_le.1 v (most - (n + 1 + size t (most - n)))
        exact .mk k t v b (few_of t (most - n) (by omega) (by omega)) (few_of v (most - (n + 1 + size t (most - n))) (by omega) (by omega)) (by omega) h4
      · omega
    · omega

theorem fewCs_of (l : List Cl) (h : sizeCs l 20000 0 ≤ 20000) : l.length ≤ 20000 ∧ ∀ c, c ∈ l → FewC c := by
  have main : ∀ (l : List Cl) (n : Int), 0 ≤ n → sizeCs l 20000 n ≤ 20000 → n + l.length ≤ 20000 ∧ ∀ c, c ∈ l → FewC c := by
    intro l
    induction l with
    | nil => intro n _ h; simp only [sizeCs] at h; exact ⟨by simpa using h, fun c hc => by cases hc⟩
    | cons c r ihr =>
      intro n h0 h
      simp only [sizeCs] at h
      split at h
      · rename_i h2
        have h3 := sizeCs_ge.1 c 20000 n h2
        have h4 := sizeCs_ge.2 r 20000 (sizeC c 20000 n)
        obtain ⟨h6, h7⟩ := ihr _ (by omega) h
        refine ⟨by simp; omega, fun d hd => ?_⟩
        cases hd with
        | head => exact fewC_all c 20000 n (by omega) h0 h2 (by omega)
        | tail _ hd => exact h7 d hd
      · omega
  obtain ⟨h1, h2⟩ := main l 0 (by omega) h
  exact ⟨by omega, h2⟩

/-! ### lent -/
def markC : PV := .agg [.int .u8 77, .int .u8 0, .str ⟨#[]⟩, .nils, .int .u8 0, .str ⟨#[]⟩, .nils, .nils]
mutual
def encTC : Cl → PV
  | .mk k (.mk o t xs) (.mk o2 t2 xs2) b => .agg [.int .u8 k, .int .u8 o, .str t, .lent 3 (encTs xs) [markEx], .int .u8 o2, .str t2, .lent 3 (encTs xs2) [markEx], .lent 8 (encTCs b) [markC]]
def encTCs : List Cl → List PV
  | [] => []
  | a :: r => encTC a :: encTCs r
end
theorem encTCs_map : ∀ l, encTCs l = l.map encTC
  | [] => rfl
  | a :: r => by rw [encTCs, encTCs_map r]; rfl
theorem encTCs_len (l : List Cl) : (encTCs l).length = l.length := by rw [encTCs_map, List.length_map]
theorem encTCs_get {l : List Cl} {i : Nat} {a : Cl} (h : l[i]? = some a) : (encTCs l)[i]? = some (encTC a) := by rw [encTCs_map, List.getElem?_map, h]; rfl
theorem encTCs_take {xs : List Cl} {k : Nat} {a : Cl} (h : xs[k]? = some a) : encTCs (xs.take (k + 1)) = encTCs (xs.take k) ++ [encTC a] := by
  rw [encTCs_map, encTCs_map, ← List.take_append_getElem (get_lt h), List.map_append]
  simp [(List.getElem?_eq_some_iff.1 h).2]
theorem encTCs_cut (xs : List Cl) (k : Nat) : (encTCs (xs.take k)).take k = encTCs (xs.take k) := by
  apply List.take_of_length_le
  rw [encTCs_len, List.length_take]
  omega

theorem encTs_les (xs : List Ex) : PV.les (encTs xs) (encs xs) := by
  induction xs with
  | nil => exact .nil
  | cons a r ih => exact .cons _ _ _ _ (encT_le a) ih
theorem encTC_le (c : Cl) : (encTC c).le (encC c) := by
  induction c using Cl.ind with
  | h k t v b ih =>
    obtain ⟨o, t, xs⟩ := t
    obtain ⟨o2, t2, xs2⟩ := v
    have main : ∀ l : List Cl, (∀ a, a ∈ l → (encTC a).le (encC a)) → PV.les (encTCs l) (encCs l) := by
      intro l
      induction l with
      | nil => intro _; exact .nil
      | cons a r ihr => intro h; exact .cons _ _ _ _ (h a (by simp)) (ihr fun b hb => h b (by simp [hb]))
    exact .agg (.cons _ _ _ _ (.refl _) (.cons _ _ _ _ (.refl _) (.cons _ _ _ _ (.refl _) (.cons _ _ _ _ (.lent (encTs_les xs)) (.cons _ _ _ _ (.refl _) (.cons _ _ _ _ (.refl _) (.cons _ _ _ _ (.lent (encTs_les xs2)) (.cons _ _ _ _ (.lent (main b ih)) .nil))))))))
theorem encTCs_le (l : List Cl) : PV.le (.lent 8 (encTCs l) [markC]) (.list 8 (encCs l)) := by
  refine .lent ?_
  induction l with
  | nil => exact .nil
  | cons a r ih => exact .cons _ _ _ _ (encTC_le a) ih

theorem LentClauses_ind (l : List Cl) (hl : l.length ≤ 20000) (hf : ∀ c, c ∈ l → FewC c) (ih : ∀ k t v b, Cl.mk k t v b ∈ l → pureF Try.prog 17 [.p (.list 8 (encCs b))] (.p (.lent 8 (encTCs b) [markC]))) :
    pureF Try.prog 17 [.p (.list 8 (encCs l))] (.p (.lent 8 (encTCs l) [markC])) := by
  have he := encCs_len l
  refine pureF_of f17_ok fun H => ?_
  (conv => whnf)
  intro R hR
  have key : ∀ (a1 a2 a3 a4 a5 a6 a7 a8 : PV) (rest : List Cl) (k : Nat), l.drop (k + 1) = rest → k < l.length → R [(0, .p (.list 8 (encCs l))), (3, .view (.l 1) k 8 (k + 1)), (4, .p (.int .i64 (k + 1 : Nat)))] H [.cells [.p a1, .p a2, .p a3, .p a4, .p a5, .p a6, .p a7, .p a8], .buf k 8 (encTCs (l.take (k + 1)))] := by
    intro a1 a2 a3 a4 a5 a6 a7 a8 rest
    induction rest with
    | nil =>
      intro k hd hk
      have hl := drop_nil hd
      have hk1 : k + 1 = l.length := by omega
      refine hR _ _ _ ?_
      (conv => whnf)
      refine splitB_f (decide_eq_false (by omega)) ?_
      (conv => whnf)
      refine ⟨rfl, ?_⟩
      (conv => whnf)
      refine ⟨⟨rfl, rfl, rfl, by rw [encTCs_len, List.length_take]; omega⟩, by simp [room]; omega, encTCs l ++ [markC], by rw [encTCs_cut, hk1, List.take_length]; rfl, ?_⟩
      (conv => whnf)
      refine ⟨rfl, ?_⟩
      (conv => whnf)
      refine ⟨⟨by omega, by rw [he]; simp; omega⟩, ?_⟩
      (conv => whnf)
      refine ⟨⟨rfl, rfl⟩, .inr ⟨encTCs l, [markC], ⟨by omega, by simp⟩, rfl, by rw [encTCs_len]; simp [he], ?_⟩⟩
      exact ⟨rfl, rfl⟩
    | cons c r ihr =>
      intro k hd hk
      obtain ⟨hg, hd', hi⟩ := drop_cons hd
      have hmem := List.mem_of_getElem? hg
      have hfc := hf c hmem
      refine hR _ _ _ ?_
      (conv => whnf)
      refine splitB_t (decide_eq_true (by omega)) ?_
      (conv => whnf)
      obtain ⟨kk, ⟨o, t, xs⟩, ⟨o2, t2, xs2⟩, b⟩ := c
      have ihc := ih _ _ _ _ hmem
      cases hfc with
      | mk _ _ _ _ hft hfv hbl hfb =>
      refine ⟨rfl, encC (.mk kk (.mk o t xs) (.mk o2 t2 xs2) b), ⟨by omega, encCs_get hg⟩, ?_⟩
      (conv => whnf)
      refine ⟨rfl, encC (.mk kk (.mk o t xs) (.mk o2 t2 xs2) b), ⟨by omega, encCs_get hg⟩, ?_⟩
      (conv => whnf)
      refine CallD.pureF (LentExpr_spec _ hft) rfl ?_
      (conv => whnf)
      refine ⟨rfl, encC (.mk kk (.mk o t xs) (.mk o2 t2 xs2) b), ⟨by omega, encCs_get hg⟩, ?_⟩
      (conv => whnf)
      refine CallD.pureF (LentExpr_spec _ hfv) rfl ?_
      (conv => whnf)
      refine ⟨rfl, encC (.mk kk (.mk o t xs) (.mk o2 t2 xs2) b), ⟨by omega, encCs_get hg⟩, ?_⟩
      (conv => whnf)
      refine CallVC.pureF ihc rfl ?_
      (conv => whnf)
      refine ⟨rfl, ?_⟩
      (conv => whnf)
      refine ⟨⟨rfl, rfl, rfl, by rw [encTCs_len, List.length_take]; omega⟩, by simp [room]; omega, encTCs (l.take (k + 1 + 1)), by rw [encTCs_cut, encTCs_take hg]; rfl, ?_⟩
      (conv => whnf)
      rw [IntWalk.i64_in _ (by omega)]
      exact ihr (k + 1) hd' hi
  cases l with
  | nil =>
    refine hR _ _ _ ?_
    (conv => whnf)
    refine splitB_f rfl ?_
    (conv => whnf)
    refine ⟨rfl, ?_⟩
    (conv => whnf)
    refine ⟨by simp [room], ?_⟩
    (conv => whnf)
    refine ⟨rfl, ?_⟩
    (conv => whnf)
    refine ⟨⟨by omega, by decide⟩, ?_⟩
    (conv => whnf)
    refine ⟨⟨rfl, rfl⟩, .inr ⟨[], [markC], ⟨by omega, by decide⟩, rfl, rfl, ?_⟩⟩
    exact ⟨rfl, rfl⟩
  | cons c r =>
    have hfc := hf c (by simp)
    refine hR _ _ _ ?_
    (conv => whnf)
    refine splitB_t (decide_eq_true (by rw [he]; simp)) ?_
    (conv => whnf)
    obtain ⟨kk, ⟨o, t, xs⟩, ⟨o2, t2, xs2⟩, b⟩ := c
    have ihc := ih _ _ _ _ (by simp : Cl.mk kk (.mk o t xs) (.mk o2 t2 xs2) b ∈ _)
    cases hfc with
    | mk _ _ _ _ hft hfv hbl hfb =>
    refine ⟨rfl, encC (.mk kk (.mk o t xs) (.mk o2 t2 xs2) b), ⟨by omega, rfl⟩, ?_⟩
    (conv => whnf)
    refine ⟨rfl, encC (.mk kk (.mk o t xs) (.mk o2 t2 xs2) b), ⟨by omega, rfl⟩, ?_⟩
    (conv => whnf)
    refine CallD.pureF (LentExpr_spec _ hft) rfl ?_
    (conv => whnf)
    refine ⟨rfl, encC (.mk kk (.mk o t xs) (.mk o2 t2 xs2) b), ⟨by omega, rfl⟩, ?_⟩
    (conv => whnf)
    refine CallD.pureF (LentExpr_spec _ hfv) rfl ?_
    (conv => whnf)
    refine ⟨rfl, encC (.mk kk (.mk o t xs) (.mk o2 t2 xs2) b), ⟨by omega, rfl⟩, ?_⟩
    (conv => whnf)
    refine CallVC.pureF ihc rfl ?_
    (conv => whnf)
    refine ⟨rfl, ?_⟩
    (conv => whnf)
    refine ⟨by simp [room], ?_⟩
    (conv => whnf)
    exact key _ _ _ _ _ _ _ _ r 0 rfl (by simp)

theorem LentClauses_all (c : Cl) : ∀ k t v b, c = .mk k t v b → FewC c → pureF Try.prog 17 [.p (.list 8 (encCs b))] (.p (.lent 8 (encTCs b) [markC])) := by
  induction c using Cl.ind with
  | h k t v b ih =>
    intro k' t' v' b' e hf
    cases e
    cases hf with
    | mk _ _ _ _ _ _ hl hb => exact LentClauses_ind b hl hb fun k2 t2 v2 b2 hm => ih _ hm k2 t2 v2 b2 rfl (hb _ hm)
theorem LentClauses_spec (l : List Cl) (hl : l.length ≤ 20000) (hf : ∀ c, c ∈ l → FewC c) : pureF Try.prog 17 [.p (.list 8 (encCs l))] (.p (.lent 8 (encTCs l) [markC])) :=
  LentClauses_ind l hl hf fun k t v b hm => LentClauses_all _ k t v b rfl (hf _ hm)

theorem KeptClauses_ind (l : List Cl) (hl : l.length ≤ 20000) (hf : ∀ c, c ∈ l → FewC c) (ih : ∀ k t v b, Cl.mk k t v b ∈ l → pureF Try.prog 20 [.p (.lent 8 (encTCs b) [markC]), .p (.list 8 (encCs b))] (.p (.bool true))) :
    pureF Try.prog 20 [.p (.lent 8 (encTCs l) [markC]), .p (.list 8 (encCs l))] (.p (.bool true)) := by
  have he := encCs_len l
  have heT := encTCs_len l
  refine pureF_of f20_ok fun H => ?_
  (conv => whnf)
  refine splitB_f (by rw [he, heT]; simp) ?_
  (conv => whnf)
  rw [IntWalk.i64_in _ (by omega)]
  refine ⟨rfl, ⟨by omega, by rw [List.length_append, heT, he]; simp⟩, ?_⟩
  (conv => whnf)
  refine ⟨rfl, markC, ⟨by omega, ?_⟩, ?_⟩
  · rw [List.take_of_length_le (by rw [List.length_append, heT, he]; simp)]
    rw [List.getElem?_append_right (by rw [heT, he]; simp)]
    simp [heT, he]
  (conv => whnf)
  refine splitB_f rfl ?_
  (conv => whnf)
  intro R hR
  have key : ∀ (rest : List Cl) (i : Nat), l.drop i = rest → R [(0, .p (.lent 8 (encTCs l) [markC])), (1, .p (.list 8 (encCs l))), (5, .p (.int .i64 (encCs l).length)), (6, .p (.int .i64 i))] H [] := by
    intro rest
    induction rest with
    | nil =>
      intro i hd
      have hl := drop_nil hd
      refine hR _ _ _ ?_
      (conv => whnf)
      refine splitB_f (decide_eq_false (by omega)) ?_
      exact ⟨rfl, rfl⟩
    | cons c r ihr =>
      intro i hd
      obtain ⟨hg, hd', hi⟩ := drop_cons hd
      have hmem := List.mem_of_getElem? hg
      have hfc := hf c hmem
      refine hR _ _ _ ?_
      (conv => whnf)
      refine splitB_t (decide_eq_true (by omega)) ?_
      (conv => whnf)
      obtain ⟨kk, ⟨o, t, xs⟩, ⟨o2, t2, xs2⟩, b⟩ := c
      have ihc := ih _ _ _ _ hmem
      cases hfc with
      | mk _ _ _ _ hft hfv hbl hfb =>
      refine ⟨rfl, encTC (.mk kk (.mk o t xs) (.mk o2 t2 xs2) b), ⟨by omega, encTCs_get hg⟩, ?_⟩
      (conv => whnf)
      refine ⟨rfl, encC (.mk kk (.mk o t xs) (.mk o2 t2 xs2) b), ⟨by omega, encCs_get hg⟩, ?_⟩
      (conv => whnf)
      refine splitB_f (by simp) ?_
      (conv => whnf)
      refine ⟨rfl, encTC (.mk kk (.mk o t xs) (.mk o2 t2 xs2) b), ⟨by omega, encTCs_get hg⟩, ?_⟩
      (conv => whnf)
      refine ⟨rfl, encC (.mk kk (.mk o t xs) (.mk o2 t2 xs2) b), ⟨by omega, encCs_get hg⟩, ?_⟩
      (conv => whnf)
      refine CallD.pureF (KeptExpr_spec _ hft) rfl ?_
      (conv => whnf)
      refine splitB_f rfl ?_
      (conv => whnf)
      refine ⟨rfl, encTC (.mk kk (.mk o t xs) (.mk o2 t2 xs2) b), ⟨by omega, encTCs_get hg⟩, ?_⟩
      (conv => whnf)
      refine ⟨rfl, encC (.mk kk (.mk o t xs) (.mk o2 t2 xs2) b), ⟨by omega, encCs_get hg⟩, ?_⟩
      (conv => whnf)
      refine CallD.pureF (KeptExpr_spec _ hfv) rfl ?_
      (conv => whnf)
      refine splitB_f rfl ?_
      (conv => whnf)
      refine ⟨rfl, encTC (.mk kk (.mk o t xs) (.mk o2 t2 xs2) b), ⟨by omega, encTCs_get hg⟩, ?_⟩
      (conv => whnf)
      refine ⟨rfl, encC (.mk kk (.mk o t xs) (.mk o2 t2 xs2) b), ⟨by omega, encCs_get hg⟩, ?_⟩
      (conv => whnf)
      refine CallD.pureF ihc rfl ?_
      (conv => whnf)
      refine splitB_f rfl ?_
      (conv => whnf)
      rw [IntWalk.i64_in _ (by omega)]
      exact ihr (i + 1) hd'
  exact key l 0 rfl

theorem KeptClauses_all (c : Cl) : ∀ k t v b, c = .mk k t v b → FewC c → pureF Try.prog 20 [.p (.lent 8 (encTCs b) [markC]), .p (.list 8 (encCs b))] (.p (.bool true)) := by
  induction c using Cl.ind with
  | h k t v b ih =>
    intro k' t' v' b' e hf
    cases e
    cases hf with
    | mk _ _ _ _ _ _ hl hb => exact KeptClauses_ind b hl hb fun k2 t2 v2 b2 hm => ih _ hm k2 t2 v2 b2 rfl (hb _ hm)
theorem KeptClauses_spec (l : List Cl) (hl : l.length ≤ 20000) (hf : ∀ c, c ∈ l → FewC c) : pureF Try.prog 20 [.p (.lent 8 (encTCs l) [markC]), .p (.list 8 (encCs l))] (.p (.bool true)) :=
  KeptClauses_ind l hl hf fun k t v b hm => KeptClauses_all _ k t v b rfl (hf _ hm)

end Go.Proofs.Ytaanmljlbhkonaa.AD

namespace Go.Proofs.Ytaanmljlbhkonaa.AD
open Go.Proofs
set_option linter.unusedVariables false
set_option linter.unusedSimpArgs false
set_option maxRecDepth 100000

theorem zero_spec (e : Ex) : pureF Try.prog 51 [.p (enc e)] (.p (.bool (zeroE e))) := by
  obtain ⟨o, t, xs⟩ := e
  have he := encs_len xs
  refine pureF_of f51_ok fun H => ?_
  repeat' ((conv => whnf); first | refine splitB_t rfl ?_ | refine splitB_f rfl ?_ | (first | refine splitB_t rfl ?_ | refine splitB_f rfl ?_ | refine splitB_dec (fun h => ?_) (fun h => ?_) | refine splitB_eq (fun h => ?_) (fun h => ?_) | refine splitB_ne (fun h => ?_) (fun h => ?_) | refine splitB_intro (fun h => ?_) (fun h => ?_)))
  all_goals (try (conv => whnf))
  all_goals (refine ⟨congrArg (fun b => AV.p (PV.bool b)) ?_, rfl⟩; simp only [zeroE, eqS, he])
  · rw [decide_eq_true ‹o = 0›, beq_iff_eq.2 ‹t.toList = _›]
    cases xs with
    | nil => rfl
    | cons a r => simp; omega
  · rw [beq_eq_false_iff_ne.2 ‹¬t.toList = _›]; simp
  · rw [decide_eq_false ‹¬o = 0›]; rfl

theorem checkC_k (k : Int) (t v : Ex) (b : List Cl) :
    (k = 1 → checkC (.mk k t v b) = ((zeroE v && decide (b.length = 0)) && mayE t)) ∧ (k = 2 → checkC (.mk k t v b) = ((mayE v && decide (b.length = 0)) && mayE t)) ∧ (k = 3 → checkC (.mk k t v b) = ((zeroE v && checkL b) && mayE t)) ∧ ((k < 1 ∨ k > 3) → checkC (.mk k t v b) = false) := by
  refine ⟨fun h => ?_, fun h => ?_, fun h => ?_, fun h => ?_⟩
  · subst h; rfl
  · subst h; rfl
  · subst h; rfl
  · rw [checkC, if_neg (by omega), if_neg (by omega), if_neg (by omega)]; rfl

theorem refCheck_ind (l : List Cl) (hl : (l.length : Int) ≤ 9223372036854775807) (hf : ∀ c, c ∈ l → FitsC c) (ih : ∀ k t v b, Cl.mk k t v b ∈ l → pureF Try.prog 29 [.p (.list 8 (encCs b))] (.p (.int .i64 (errT (checkL b))))) :
    pureF Try.prog 29 [.p (.list 8 (encCs l))] (.p (.int .i64 (errT (checkL l)))) := by
  have he := encCs_len l
  refine pureF_of f29_ok fun H => ?_
  (conv => whnf)
  intro R hR
  have key : ∀ (rest : List Cl) (i : Nat), l.drop i = rest → checkL l = checkL rest → R [(0, .p (.list 8 (encCs l))), (3, .p (.int .i64 i))] H [] := by
    intro rest
    induction rest with
    | nil =>
      intro i hd hq
      have hl := drop_nil hd
      refine hR _ _ _ ?_
      (conv => whnf)
      refine splitB_f (decide_eq_false (by omega)) ?_
      exact ⟨by rw [hq]; rfl, rfl⟩
    | cons c r ihr =>
      intro i hd hq
      obtain ⟨hg, hd', hi⟩ := drop_cons hd
      have hmem := List.mem_of_getElem? hg
      have hfc := hf c hmem
      obtain ⟨k, ⟨o, t, xs⟩, ⟨o2, t2, xs2⟩, b⟩ := c
      have ihc := ih _ _ _ _ hmem
      cases hfc with
      | mk _ _ _ _ hk hft hfv hb _ =>
      have hmt := May_spec _ hft
      have hmv := May_spec _ hfv
      have hz := zero_spec (.mk o2 t2 xs2)
      have hex := encs_len xs2
      have heb := encCs_len b
      refine hR _ _ _ ?_
      (conv => whnf)
      refine splitB_t (decide_eq_true (by omega)) ?_
      (conv => whnf)
      refine ⟨rfl, encC (.mk k (.mk o t xs) (.mk o2 t2 xs2) b), ⟨by omega, encCs_get hg⟩, ?_⟩
      have hq2 : checkL l = (checkC (.mk k (.mk o t xs) (.mk o2 t2 xs2) b) && checkL r) := hq
      have bad : checkC (.mk k (.mk o t xs) (.mk o2 t2 xs2) b) = false → errT (checkL l) = 151 := fun e => by rw [hq2, e]; rfl
      have good : checkC (.mk k (.mk o t xs) (.mk o2 t2 xs2) b) = true → checkL l = checkL r := fun e => by rw [hq2, e]; rfl
      have hnil : b.length = 0 → checkL b = true := fun h => by rw [List.length_eq_zero_iff.1 h]; rfl
      obtain ⟨c1, c2, c3, c4⟩ := checkC_k k (.mk o t xs) (.mk o2 t2 xs2) b
      have hlz : ¬ ((encCs b).length : Int) > 0 → decide (b.length = 0) = true := fun h => decide_eq_true (by omega)
      have hlp : ((encCs b).length : Int) > 0 → decide (b.length = 0) = false := fun h => decide_eq_false (by omega)
      rcases (show k = 1 ∨ k = 2 ∨ k = 3 ∨ (k < 1 ∨ k > 3) by omega) with rfl | rfl | rfl | hk'
      · have hchk := c1 rfl
        clear c1 c2 c3 c4
        cases hcb : checkL b
        all_goals rw [hcb] at ihc
        all_goals repeat' ((conv => whnf); first | refine CallVC.pureF hmt rfl ?_ | refine CallVC.pureF hmv rfl ?_ | refine CallVC.pureF hz rfl ?_ | refine CallVC.pureF ihc rfl ?_ | refine splitB_t rfl ?_ | refine splitB_f rfl ?_ | (first | refine splitB_t rfl ?_ | refine splitB_f rfl ?_ | refine splitB_dec (fun h => ?_) (fun h => ?_) | refine splitB_eq (fun h => ?_) (fun h => ?_) | refine splitB_ne (fun h => ?_) (fun h => ?_) | refine splitB_intro (fun h => ?_) (fun h => ?_)))
        all_goals (try (conv => whnf))
        all_goals first
          | (exfalso; omega)
          | exact ⟨congrArg (fun n => AV.p (PV.int .i64 n)) (bad hchk).symm, rfl⟩
          | exact ⟨congrArg (fun n => AV.p (PV.int .i64 n)) (bad (by rw [hchk]; clear hR ihr; simp_all)).symm, rfl⟩
          | (rw [IntWalk.i64_in _ (by omega)]; exact ihr (i + 1) hd' (good (by rw [hchk]; clear hR ihr; simp_all)))
      · have hchk := c2 rfl
        clear c1 c2 c3 c4
        cases hcb : checkL b
        all_goals rw [hcb] at ihc
        all_goals repeat' ((conv => whnf); first | refine CallVC.pureF hmt rfl ?_ | refine CallVC.pureF hmv rfl ?_ | refine CallVC.pureF hz rfl ?_ | refine CallVC.pureF ihc rfl ?_ | refine splitB_t rfl ?_ | refine splitB_f rfl ?_ | (first | refine splitB_t rfl ?_ | refine splitB_f rfl ?_ | refine splitB_dec (fun h => ?_) (fun h => ?_) | refine splitB_eq (fun h => ?_) (fun h => ?_) | refine splitB_ne (fun h => ?_) (fun h => ?_) | refine splitB_intro (fun h => ?_) (fun h => ?_)))
        all_goals (try (conv => whnf))
        all_goals first
          | (exfalso; omega)
          | exact ⟨congrArg (fun n => AV.p (PV.int .i64 n)) (bad hchk).symm, rfl⟩
          | exact ⟨congrArg (fun n => AV.p (PV.int .i64 n)) (bad (by rw [hchk]; clear hR ihr; simp_all)).symm, rfl⟩
          | (rw [IntWalk.i64_in _ (by omega)]; exact ihr (i + 1) hd' (good (by rw [hchk]; clear hR ihr; simp_all)))
      · have hchk := c3 rfl
        clear c1 c2 c3 c4
        cases hcb : checkL b
        all_goals rw [hcb] at ihc
        all_goals repeat' ((conv => whnf); first | refine CallVC.pureF hmt rfl ?_ | refine CallVC.pureF hmv rfl ?_ | refine CallVC.pureF hz rfl ?_ | refine CallVC.pureF ihc rfl ?_ | refine splitB_t rfl ?_ | refine splitB_f rfl ?_ | (first | refine splitB_t rfl ?_ | refine splitB_f rfl ?_ | refine splitB_dec (fun h => ?_) (fun h => ?_) | refine splitB_eq (fun h => ?_) (fun h => ?_) | refine splitB_ne (fun h => ?_) (fun h => ?_) | refine splitB_intro (fun h => ?_) (fun h => ?_)))
        all_goals (try (conv => whnf))
        all_goals first
          | (exfalso; omega)
          | exact ⟨congrArg (fun n => AV.p (PV.int .i64 n)) (bad hchk).symm, rfl⟩
          | exact ⟨congrArg (fun n => AV.p (PV.int .i64 n)) (bad (by rw [hchk]; clear hR ihr; simp_all)).symm, rfl⟩
          | (rw [IntWalk.i64_in _ (by omega)]; exact ihr (i + 1) hd' (good (by rw [hchk]; clear hR ihr; simp_all)))
      · have hchk := c4 hk'
        clear c1 c2 c3 c4
        cases hcb : checkL b
        all_goals rw [hcb] at ihc
        all_goals repeat' ((conv => whnf); first | refine CallVC.pureF hmt rfl ?_ | refine CallVC.pureF hmv rfl ?_ | refine CallVC.pureF hz rfl ?_ | refine CallVC.pureF ihc rfl ?_ | refine splitB_t rfl ?_ | refine splitB_f rfl ?_ | (first | refine splitB_t rfl ?_ | refine splitB_f rfl ?_ | refine splitB_dec (fun h => ?_) (fun h => ?_) | refine splitB_eq (fun h => ?_) (fun h => ?_) | refine splitB_ne (fun h => ?_) (fun h => ?_) | refine splitB_intro (fun h => ?_) (fun h => ?_)))
        all_goals (try (conv => whnf))
        all_goals first
          | (exfalso; omega)
          | exact ⟨congrArg (fun n => AV.p (PV.int .i64 n)) (bad hchk).symm, rfl⟩
          | exact ⟨congrArg (fun n => AV.p (PV.int .i64 n)) (bad (by rw [hchk]; clear hR ihr; simp_all)).symm, rfl⟩
          | (rw [IntWalk.i64_in _ (by omega)]; exact ihr (i + 1) hd' (good (by rw [hchk]; clear hR ihr; simp_all)))
  exact key l 0 rfl rfl

theorem refCheck_all (c : Cl) : ∀ k t v b, c = .mk k t v b → FitsC c → pureF Try.prog 29 [.p (.list 8 (encCs b))] (.p (.int .i64 (errT (checkL b)))) := by
  induction c using Cl.ind with
  | h k t v b ih =>
    intro k' t' v' b' e hf
    cases e
    cases hf with
    | mk _ _ _ _ _ _ _ h1 h2 => exact refCheck_ind b h1 h2 fun k2 t2 v2 b2 hm => ih _ hm k2 t2 v2 b2 rfl (h2 _ hm)

theorem refCheck_spec (l : List Cl) (hl : (l.length : Int) ≤ 9223372036854775807) (hf : ∀ c, c ∈ l → FitsC c) : pureF Try.prog 29 [.p (.list 8 (encCs l))] (.p (.int .i64 (errT (checkL l)))) :=
  refCheck_ind l hl hf fun k t v b hm => refCheck_all _ k t v b rfl (hf _ hm)

/-! ### are they right -/
mutual
def rightC : Cl → Bool
  | .mk k t v b => decide (typeT t = 4) && ((!decide (k = 2) || decide (typeT v = 1)) && rightL b)
def rightL : List Cl → Bool
  | [] => true
  | a :: r => rightC a && rightL r
end
theorem rightL_all : ∀ l, rightL l = l.all rightC
  | [] => rfl
  | a :: r => by rw [rightL, rightL_all r]; rfl

/-- What checks is shaped. -/
theorem checkC_parts {k t v b} (h : checkC (.mk k t v b) = true) : Shaped t ∧ (k = 2 → Shaped v) ∧ checkL b = true := by
  simp only [checkC, Bool.and_eq_true] at h
  obtain ⟨h1, h2⟩ := h
  refine ⟨shaped_of _ h2, fun hk => ?_, ?_⟩
  · rw [if_pos hk, Bool.and_eq_true] at h1
    exact shaped_of _ h1.1
  · have hnil : b.length = 0 → checkL b = true := fun h => by rw [List.length_eq_zero_iff.1 h]; rfl
    split at h1
    · simp only [Bool.and_eq_true, decide_eq_true_eq] at h1; exact hnil h1.2
    · split at h1
      · simp only [Bool.and_eq_true] at h1; exact h1.2
      · split at h1
        · simp only [Bool.and_eq_true, decide_eq_true_eq] at h1; exact hnil h1.2
        · cases h1

theorem refRight_ind (l : List Cl) (hl : (l.length : Int) ≤ 9223372036854775807) (hc : checkL l = true) (ih : ∀ k t v b, Cl.mk k t v b ∈ l → pureF Try.prog 30 [.p (.list 8 (encCs b))] (.p (.bool (rightL b)))) :
    pureF Try.prog 30 [.p (.list 8 (encCs l))] (.p (.bool (rightL l))) := by
  have he := encCs_len l
  refine pureF_of f30_ok fun H => ?_
  (conv => whnf)
  intro R hR
  have key : ∀ (rest : List Cl) (i : Nat), l.drop i = rest → checkL rest = true → rightL l = rightL rest → R [(0, .p (.list 8 (encCs l))), (3, .p (.int .i64 i))] H [] := by
    intro rest
    induction rest with
    | nil =>
      intro i hd _ hq
      have hl := drop_nil hd
      refine hR _ _ _ ?_
      (conv => whnf)
      refine splitB_f (decide_eq_false (by omega)) ?_
      exact ⟨by rw [hq]; rfl, rfl⟩
    | cons c r ihr =>
      intro i hd hchk hq
      obtain ⟨hg, hd', hi⟩ := drop_cons hd
      have hmem := List.mem_of_getElem? hg
      obtain ⟨k, ⟨o, t, xs⟩, ⟨o2, t2, xs2⟩, b⟩ := c
      have ihc := ih _ _ _ _ hmem
      simp only [checkL, Bool.and_eq_true] at hchk
      obtain ⟨hc1, hc2⟩ := hchk
      obtain ⟨s1, s2, s3⟩ := checkC_parts hc1
      have ht := Type_spec _ s1
      refine hR _ _ _ ?_
      (conv => whnf)
      refine splitB_t (decide_eq_true (by omega)) ?_
      have hel : ∃ e, (0 ≤ (i : Int) ∧ (encCs l)[((i : Int)).toNat]? = some e) ∧ e = encC (.mk k (.mk o t xs) (.mk o2 t2 xs2) b) := ⟨_, ⟨by omega, encCs_get hg⟩, rfl⟩
      have hq2 : rightL l = (rightC (.mk k (.mk o t xs) (.mk o2 t2 xs2) b) && rightL r) := hq
      have hrc : rightC (.mk k (.mk o t xs) (.mk o2 t2 xs2) b) = (decide (typeT (.mk o t xs) = 4) && ((!decide (k = 2) || decide (typeT (.mk o2 t2 xs2) = 1)) && rightL b)) := rfl
      rcases (show k = 2 ∨ k ≠ 2 by omega) with rfl | hk2
      · have hv := Type_spec _ (s2 rfl)
        repeat' ((conv => whnf); first | refine CallVC.pureF ht rfl ?_ | refine CallVC.pureF hv rfl ?_ | refine CallVC.pureF ihc rfl ?_ | refine ⟨rfl, encC (.mk 2 (.mk o t xs) (.mk o2 t2 xs2) b), ⟨by omega, encCs_get hg⟩, ?_⟩ | refine splitB_t rfl ?_ | refine splitB_f rfl ?_ | (first | refine splitB_t rfl ?_ | refine splitB_f rfl ?_ | refine splitB_dec (fun h => ?_) (fun h => ?_) | refine splitB_eq (fun h => ?_) (fun h => ?_) | refine splitB_ne (fun h => ?_) (fun h => ?_) | refine splitB_intro (fun h => ?_) (fun h => ?_)))
        all_goals (try (conv => whnf))
        all_goals first
          | exact ⟨congrArg (fun n => AV.p (PV.bool n)) (by rw [hq2, hrc]; clear hR ihr; simp_all), rfl⟩
          | (rw [IntWalk.i64_in _ (by omega)]; exact ihr (i + 1) hd' hc2 (by rw [hq2, hrc]; clear hR ihr; simp_all))
      · repeat' ((conv => whnf); first | refine CallVC.pureF ht rfl ?_ | refine CallVC.pureF ihc rfl ?_ | refine ⟨rfl, encC (.mk k (.mk o t xs) (.mk o2 t2 xs2) b), ⟨by omega, encCs_get hg⟩, ?_⟩ | refine splitB_f (beq_eq_false_iff_ne.2 hk2) ?_ | refine splitB_t rfl ?_ | refine splitB_f rfl ?_ | (first | refine splitB_t rfl ?_ | refine splitB_f rfl ?_ | refine splitB_dec (fun h => ?_) (fun h => ?_) | refine splitB_eq (fun h => ?_) (fun h => ?_) | refine splitB_ne (fun h => ?_) (fun h => ?_) | refine splitB_intro (fun h => ?_) (fun h => ?_)))
        all_goals (try (conv => whnf))
        all_goals first
          | exact ⟨congrArg (fun n => AV.p (PV.bool n)) (by rw [hq2, hrc]; clear hR ihr; simp_all), rfl⟩
          | (rw [IntWalk.i64_in _ (by omega)]; exact ihr (i + 1) hd' hc2 (by rw [hq2, hrc]; clear hR ihr; simp_all))
  exact key l 0 rfl hc rfl

theorem checkL_mem : ∀ l : List Cl, checkL l = true → ∀ c, c ∈ l → checkC c = true := by
  intro l
  induction l with
  | nil => intro _ c hc; cases hc
  | cons a r ih =>
    intro h c hc
    simp only [checkL, Bool.and_eq_true] at h
    cases hc with
    | head => exact h.1
    | tail _ hc => exact ih h.2 c hc

theorem refRight_all (c : Cl) : FitsC c → ∀ k t v b, c = .mk k t v b → checkL b = true → pureF Try.prog 30 [.p (.list 8 (encCs b))] (.p (.bool (rightL b))) := by
  induction c using Cl.ind with
  | h k t v b ih =>
    intro hf k' t' v' b' e hc
    cases e
    cases hf with
    | mk _ _ _ _ _ _ _ h1 h2 => exact refRight_ind b h1 hc fun k2 t2 v2 b2 hm => ih _ hm (h2 _ hm) k2 t2 v2 b2 rfl (checkC_parts (checkL_mem b hc _ hm)).2.2
theorem refRight_spec (l : List Cl) (hl : (l.length : Int) ≤ 9223372036854775807) (hf : ∀ c, c ∈ l → FitsC c) (hc : checkL l = true) : pureF Try.prog 30 [.p (.list 8 (encCs l))] (.p (.bool (rightL l))) :=
  refRight_ind l hl hc fun k t v b hm => refRight_all _ (hf _ hm) k t v b rfl (checkC_parts (checkL_mem l hc _ hm)).2.2

/-! ### the program's -/
theorem IndexFuncC_spec (l : List Cl) (hx : (l.length : Int) ≤ 9223372036854775807) (p : Cl → Bool) (f : Nat) (hf : enters Try.prog f = true) (hp : ∀ a, a ∈ l → pureF Try.prog f [.p (encC a)] (.p (.bool (p a)))) :
    pureF Try.prog 49 [.p (.list 8 (encCs l)), .p (.fn (.func f))] (.p (.int .i64 (idxF p l))) := by
  refine pureF_of f49_ok fun H => ?_
  (conv => whnf)
  intro R hR
  have he := encCs_len l
  have key : ∀ (rest : List Cl) (i : Nat), l.drop i = rest → idxF p l = (if idxF p rest = -1 then -1 else idxF p rest + i) → R [(0, .p (.list 8 (encCs l))), (1, .p (.fn (.func f))), (7, .p (.int .i64 (encCs l).length)), (8, .p (.int .i64 i))] H [] := by
    intro rest
    induction rest with
    | nil =>
      intro i hd hq
      have hl := drop_nil hd
      refine hR _ _ _ ?_
      (conv => whnf)
      refine splitB_f (decide_eq_false (by omega)) ?_
      exact ⟨by rw [hq]; rfl, rfl⟩
    | cons a r ih =>
      intro i hd hq
      obtain ⟨hg, hd', hi⟩ := drop_cons hd
      have hpa := hp a (List.mem_of_getElem? hg)
      refine hR _ _ _ ?_
      (conv => whnf)
      refine splitB_t (decide_eq_true (by omega)) ?_
      (conv => whnf)
      obtain ⟨kk, ⟨o, t, xs⟩, ⟨o2, t2, xs2⟩, b⟩ := a
      refine ⟨rfl, encC (.mk kk (.mk o t xs) (.mk o2 t2 xs2) b), ⟨by omega, encCs_get hg⟩, ?_⟩
      (conv => whnf)
      refine ⟨hf, ?_⟩
      refine CallVC.pureF hpa rfl ?_
      (conv => whnf)
      refine splitB_intro (fun h => ?_) (fun h => ?_)
      · exact ⟨by rw [hq]; simp [idxF, h], rfl⟩
      · (conv => whnf)
        rw [IntWalk.i64_in _ (by omega)]
        refine ih (i + 1) hd' ?_
        rw [hq]
        simp only [idxF, h, Bool.false_eq_true, if_false]
        have := idxF_ge p r
        by_cases h3 : idxF p r = -1
        · rw [if_pos h3, if_pos rfl, if_pos h3]
        · rw [if_neg h3, if_neg (by omega), if_neg h3]; push_cast; omega
  refine key l 0 rfl ?_
  by_cases h3 : idxF p l = -1
  · rw [if_pos h3]; exact h3
  · rw [if_neg h3]; simp

theorem ContainsFuncC_spec (l : List Cl) (hx : (l.length : Int) ≤ 9223372036854775807) (p : Cl → Bool) (f : Nat) (hf : enters Try.prog f = true) (hp : ∀ a, a ∈ l → pureF Try.prog f [.p (encC a)] (.p (.bool (p a)))) :
    pureF Try.prog 27 [.p (.list 8 (encCs l)), .p (.fn (.func f))] (.p (.bool (l.any p))) := by
  refine pureF_of f27_ok fun H => ?_
  (conv => whnf)
  refine CallVC.pureF (IndexFuncC_spec l hx p f hf hp) rfl ?_
  exact ⟨by rw [← idxF_any], rfl⟩

theorem right_spec (c : Cl) : FitsC c → checkC c = true → pureF Try.prog 50 [.p (encC c)] (.p (.bool (rightC c))) := by
  induction c using Cl.ind with
  | h k t v b ih =>
    intro hf hc
    cases hf with
    | mk _ _ _ _ hk hft hfv hb hbs =>
    obtain ⟨s1, s2, s3⟩ := checkC_parts hc
    have hany : pureF Try.prog 27 [.p (.list 8 (encCs b)), .p (.fn (.func 28))] (.p (.bool (b.any fun a => !rightC a))) :=
      ContainsFuncC_spec b hb (fun a => !rightC a) 28 (by kernel_rfl) fun a ha => by
        have h := ih a ha (hbs a ha) (checkL_mem b s3 a ha)
        refine pureF_of f28_ok fun H => ?_
        obtain ⟨kk, ⟨o, t, xs⟩, ⟨o2, t2, xs2⟩, b⟩ := a
        (conv => whnf)
        refine CallVC.pureF h rfl ?_
        exact ⟨rfl, rfl⟩
    have hall : (!(b.any fun a => !rightC a)) = rightL b := by rw [rightL_all, List.not_any_eq_all_not]; simp
    have ht := typed_spec _ s1
    refine pureF_of f50_ok fun H => ?_
    obtain ⟨o, t, xs⟩ := t
    obtain ⟨o2, t2, xs2⟩ := v
    have hrc : rightC (.mk k (.mk o t xs) (.mk o2 t2 xs2) b) = (decide (typeT (.mk o t xs) = 4) && ((!decide (k = 2) || decide (typeT (.mk o2 t2 xs2) = 1)) && (!(b.any fun a => !rightC a)))) := by rw [hall]; rfl
    rcases (show k = 2 ∨ k ≠ 2 by omega) with rfl | hk2
    · have hv := typed_spec _ (s2 rfl)
      repeat' ((conv => whnf); first | refine CallVC.pureF ht rfl ?_ | refine CallVC.pureF hv rfl ?_ | refine CallVC.pureF hany rfl ?_ | refine splitB_t rfl ?_ | refine splitB_f rfl ?_ | (first | refine splitB_t rfl ?_ | refine splitB_f rfl ?_ | refine splitB_dec (fun h => ?_) (fun h => ?_) | refine splitB_eq (fun h => ?_) (fun h => ?_) | refine splitB_ne (fun h => ?_) (fun h => ?_) | refine splitB_intro (fun h => ?_) (fun h => ?_)))
      all_goals (try (conv => whnf))
      all_goals exact ⟨congrArg (fun n => AV.p (PV.bool n)) (by rw [hrc]; simp_all), rfl⟩
    · repeat' ((conv => whnf); first | refine CallVC.pureF ht rfl ?_ | refine CallVC.pureF hany rfl ?_ | refine splitB_t (bne_iff_ne.2 hk2) ?_ | refine splitB_t rfl ?_ | refine splitB_f rfl ?_ | (first | refine splitB_t rfl ?_ | refine splitB_f rfl ?_ | refine splitB_dec (fun h => ?_) (fun h => ?_) | refine splitB_eq (fun h => ?_) (fun h => ?_) | refine splitB_ne (fun h => ?_) (fun h => ?_) | refine splitB_intro (fun h => ?_) (fun h => ?_)))
      all_goals (try (conv => whnf))
      all_goals exact ⟨congrArg (fun n => AV.p (PV.bool n)) (by rw [hrc]; simp_all), rfl⟩

theorem wrong_spec (c : Cl) (hf : FitsC c) (hc : checkC c = true) : pureF Try.prog 28 [.p (encC c)] (.p (.bool (!rightC c))) := by
  have h := right_spec c hf hc
  refine pureF_of f28_ok fun H => ?_
  obtain ⟨kk, ⟨o, t, xs⟩, ⟨o2, t2, xs2⟩, b⟩ := c
  (conv => whnf)
  refine CallVC.pureF h rfl ?_
  exact ⟨rfl, rfl⟩

/-- What is told of clauses. -/
def clsT (l : List Cl) : Int := if checkL l then (if rightL l then 0 else 200) else 151

theorem refClauses_spec (l : List Cl) (hl : (l.length : Int) ≤ 9223372036854775807) (hf : ∀ c, c ∈ l → FitsC c) : pureF Try.prog 19 [.p (.list 8 (encCs l))] (.p (.int .i64 (clsT l))) := by
  have hc := refCheck_spec l hl hf
  refine pureF_of f19_ok fun H => ?_
  cases h : checkL l with
  | false =>
    rw [h] at hc
    (conv => whnf)
    refine CallVC.pureF hc rfl ?_
    (conv => whnf)
    refine splitB_f rfl ?_
    exact ⟨by rw [clsT, h]; rfl, rfl⟩
  | true =>
    have hr := refRight_spec l hl hf h
    rw [h] at hc
    (conv => whnf)
    refine CallVC.pureF hc rfl ?_
    (conv => whnf)
    refine splitB_t rfl ?_
    (conv => whnf)
    refine CallVC.pureF hr rfl ?_
    cases h2 : rightL l with
    | false =>
      (conv => whnf)
      refine splitB_t rfl ?_
      exact ⟨by rw [clsT, h, h2]; rfl, rfl⟩
    | true =>
      (conv => whnf)
      refine splitB_f rfl ?_
      exact ⟨by rw [clsT, h, h2]; rfl, rfl⟩

theorem Clauses_spec (l : List Cl) (hl : (l.length : Int) ≤ 9223372036854775807) (hf : ∀ c, c ∈ l → FitsC c) : pureF Try.prog 18 [.p (.list 8 (encCs l))] (.p (.int .i64 (clsT l))) := by
  have hc := Check_spec l hl hf
  refine pureF_of f18_ok fun H => ?_
  cases h : checkL l with
  | false =>
    rw [h] at hc
    (conv => whnf)
    refine CallVC.pureF hc rfl ?_
    (conv => whnf)
    refine splitB_t rfl ?_
    exact ⟨by rw [clsT, h]; rfl, rfl⟩
  | true =>
    have hr := ContainsFuncC_spec l hl (fun a => !rightC a) 28 (by kernel_rfl) fun a ha => wrong_spec a (hf a ha) (checkL_mem l h a ha)
    have hall : (l.any fun a => !rightC a) = !rightL l := by rw [rightL_all, List.not_all_eq_any_not]
    rw [h] at hc
    rw [hall] at hr
    (conv => whnf)
    refine CallVC.pureF hc rfl ?_
    (conv => whnf)
    refine splitB_f rfl ?_
    (conv => whnf)
    refine CallVC.pureF hr rfl ?_
    cases h2 : rightL l with
    | false =>
      (conv => whnf)
      refine splitB_t rfl ?_
      exact ⟨by rw [clsT, h, h2]; rfl, rfl⟩
    | true =>
      (conv => whnf)
      refine splitB_f rfl ?_
      exact ⟨by rw [clsT, h, h2]; rfl, rfl⟩

theorem TypesClauses_spec (l : List Cl) (hl : (l.length : Int) ≤ 9223372036854775807) (hf : ∀ c, c ∈ l → FitsC c) : pureF Try.prog 5 [.p (.list 8 (encCs l))] (.p (.bool true)) := by
  refine pureF_of f5_ok fun H => ?_
  have hs := Sizes_spec l 20000 (by omega) (by omega)
  have hr := refClauses_spec l hl hf
  have ho := (Clauses_spec l hl hf).args (.p _ _ _ _ (encTCs_le l) .nil)
  have hw := works_spec
  (conv => whnf)
  refine CallVC.pureF hs rfl ?_
  (conv => whnf)
  refine splitB_dec (fun h => ?_) (fun h => ?_)
  · (conv => whnf)
    refine CallVC.pureF hw rfl ?_
    exact ⟨rfl, rfl⟩
  · obtain ⟨few1, few2⟩ := fewCs_of l (by omega)
    (conv => whnf)
    refine CallVC.pureF (LentClauses_spec l few1 few2) rfl ?_
    (conv => whnf)
    refine CallVC.pureF ho rfl ?_
    (conv => whnf)
    refine CallVC.pureF hr rfl ?_
    (conv => whnf)
    refine splitB_t (beq_self_eq_true _) ?_
    (conv => whnf)
    refine CallVC.pureF (KeptClauses_spec l few1 few2) rfl ?_
    (conv => whnf)
    refine splitB_t rfl ?_
    (conv => whnf)
    refine CallVC.pureF hw rfl ?_
    exact ⟨rfl, rfl⟩
end Go.Proofs.Ytaanmljlbhkonaa.AD

namespace Go.Proofs.Ytaanmljlbhkonaa.AD
open Go.Proofs
set_option linter.unusedVariables false
set_option linter.unusedSimpArgs false
set_option maxRecDepth 100000

def eqS2 (s t : ByteArray) : Bool := s.data.toList == t.data.toList
def digits2 (s : ByteArray) : Bool := (s.data.toList.all fun c => digitB c.toNat) && !(s.data.toList == [])
def dec2 (s : ByteArray) : Bool := (cutAt s 46).2.2 && (digits2 (cutAt s 46).1 && digits2 (cutAt s 46).2.1)
def text2 (o : Int) (t : ByteArray) : Bool :=
  if o = 1 then true
  else if o = 2 then nameB t && (!eqS2 t ⟨#[116, 114, 117, 101]⟩ && !eqS2 t ⟨#[102, 97, 108, 115, 101]⟩)
  else if o = 5 then digits2 t
  else if o = 7 then dec2 t
  else eqS2 t ⟨#[]⟩
theorem eqS2_eq (s t : ByteArray) : eqS2 s t = eqS s t := by rw [eqS, eqS2, ba_toList, ba_toList]
theorem digits2_eq (s : ByteArray) : digits2 s = digitsB s := by
  rw [digits2, digitsB, neS, ba_toList, ba_toList]
theorem text2_eq (o : Int) (t : ByteArray) : text2 o t = textOk o t := by
  simp only [text2, textOk, eqS2_eq, digits2_eq, dec2, decB]
mutual
def may2 : Ex → Bool
  | .mk o t xs => decide (arityI o = xs.length) && (text2 o t && may2L xs)
def may2L : List Ex → Bool
  | [] => true
  | a :: r => may2 a && may2L r
end
mutual
theorem may2_eq : ∀ e, may2 e = mayE e
  | .mk o t xs => by rw [may2, mayE, text2_eq, may2L_eq xs]
theorem may2L_eq : ∀ l, may2L l = mayL l
  | [] => rfl
  | a :: r => by rw [may2L, mayL, may2_eq a, may2L_eq r]
end
mutual
def fits2 : Ex → Bool
  | .mk o t xs => decide (0 ≤ o) && (Nat.ble t.size 1000000 && (Nat.ble xs.length 1000000 && fits2L xs))
def fits2L : List Ex → Bool
  | [] => true
  | a :: r => fits2 a && fits2L r
end
mutual
theorem fits2_of : ∀ e, fits2 e = true → Fits e
  | .mk o t xs, h => by
    simp only [fits2, Bool.and_eq_true, decide_eq_true_eq] at h
    obtain ⟨h1, h2, h3, h4⟩ := h
    have h2 := Nat.le_of_ble_eq_true h2
    have h3 := Nat.le_of_ble_eq_true h3
    exact .mk o t xs h1 (by omega) (by omega) (fits2L_of xs h4)
theorem fits2L_of : ∀ l, fits2L l = true → ∀ a, a ∈ l → Fits a
  | [], _, a, h => by cases h
  | b :: r, h, a, ha => by
    simp only [fits2L, Bool.and_eq_true] at h
    cases ha with
    | head => exact fits2_of b h.1
    | tail _ ha => exact fits2L_of r h.2 a ha
end

/-- Has a test this type, or this error? -/
def isB (s : ByteArray) (t er : Int) : Bool := match exprR s 60 with
  | some (e, _, _) => fits2 e && (if may2 e = true then (if typeT e = 0 then decide (t = 0 ∧ er = 200) else decide (t = typeT e ∧ er = 0)) else decide (t = 0 ∧ er = 151))
  | none => false

theorem is20_spec (s : ByteArray) (hsz : (s.size : Int) ≤ 9223372036854775807) (t er : Int) (h : isB s t er = true) : pureF Try.prog 21 [.p (.str s), .p (.int .u8 t), .p (.int .i64 er)] (.p (.bool true)) := by
  refine pureF_of f21_ok fun H => ?_
  unfold isB at h
  split at h
  rotate_left
  · cases h
  rename_i e p w he
  rw [Bool.and_eq_true] at h
  obtain ⟨hf, h⟩ := h
  have hE := Expr_spec' s hsz 60 e p w he
  have hO := Of_spec e (fits2_of e hf)
  have hof : ofT e = .tup [.int .u8 t, .int .i64 er] := by
    rw [ofT, ← may2_eq]
    split at h
    · rename_i hm
      rw [if_pos hm]
      split at h
      · rename_i h0
        rw [decide_eq_true_eq] at h
        rw [if_pos h0, h.1, h.2]
      · rename_i h0
        rw [decide_eq_true_eq] at h
        rw [if_neg h0, h.1, h.2]
    · rename_i hm
      rw [decide_eq_true_eq] at h
      rw [if_neg hm, h.1, h.2]
  rw [hof] at hO
  obtain ⟨o, tx, xs⟩ := e
  (conv => whnf)
  refine CallVC.pureF hE rfl ?_
  (conv => whnf)
  refine CallVC.pureF hO rfl ?_
  (conv => whnf)
  refine splitB_t (beq_iff_eq.2 rfl) ?_
  (conv => whnf)
  exact ⟨by simp, rfl⟩

theorem t1 : isB ⟨#[97, 32, 46, 32, 34, 120, 34]⟩ 1 0 = true := by decide +kernel

end Go.Proofs.Ytaanmljlbhkonaa.AD

namespace Go.Proofs.Ytaanmljlbhkonaa.AD
open Go.Proofs
set_option linter.unusedVariables false
set_option linter.unusedSimpArgs false
set_option maxRecDepth 100000

def zero2 : Ex → Bool
  | .mk o t xs => decide (o = 0) && (eqS2 t ⟨#[]⟩ && decide (xs.length = 0))
theorem zero2_eq (e : Ex) : zero2 e = zeroE e := by cases e; simp only [zero2, zeroE, eqS2_eq]
mutual
def check2 : Cl → Bool
  | .mk k t v b => (if k = 2 then may2 v && decide (b.length = 0) else if k = 3 then zero2 v && check2L b else if k = 1 then zero2 v && decide (b.length = 0) else false) && may2 t
def check2L : List Cl → Bool
  | [] => true
  | a :: r => check2 a && check2L r
end
mutual
theorem check2_eq : ∀ c, check2 c = checkC c
  | .mk k t v b => by rw [check2, checkC, may2_eq, may2_eq, zero2_eq, check2L_eq b]
theorem check2L_eq : ∀ l, check2L l = checkL l
  | [] => rfl
  | a :: r => by rw [check2L, checkL, check2_eq a, check2L_eq r]
end
mutual
def fitsC2 : Cl → Bool
  | .mk k t v b => decide (0 ≤ k) && (fits2 t && (fits2 v && (Nat.ble b.length 1000000 && fitsC2L b)))
def fitsC2L : List Cl → Bool
  | [] => true
  | a :: r => fitsC2 a && fitsC2L r
end
mutual
theorem fitsC2_of : ∀ c, fitsC2 c = true → FitsC c
  | .mk k t v b, h => by
    simp only [fitsC2, Bool.and_eq_true, decide_eq_true_eq] at h
    obtain ⟨h1, h2, h3, h4, h5⟩ := h
    have h4 := Nat.le_of_ble_eq_true h4
    exact .mk k t v b h1 (fits2_of t h2) (fits2_of v h3) (by omega) (fitsC2L_of b h5)
theorem fitsC2L_of : ∀ l, fitsC2L l = true → ∀ a, a ∈ l → FitsC a
  | [], _, a, h => by cases h
  | b :: r, h, a, ha => by
    simp only [fitsC2L, Bool.and_eq_true] at h
    cases ha with
    | head => exact fitsC2_of b h.1
    | tail _ ha => exact fitsC2L_of r h.2 a ha
end
def clsB (s : ByteArray) (er : Int) : Bool := match parseR s 60 10 with
  | some (l, _, _) => fitsC2L l && (Nat.ble l.length 1000000 && decide ((if check2L l then (if rightL l then 0 else 200) else 151) = er))
  | none => false
theorem clsB_spec {s : ByteArray} {er : Int} (hsz : (s.size : Int) ≤ 9223372036854775807) (h : clsB s er = true) :
    ∃ l p w, pureF Try.prog 22 [.p (.str s)] (.p (.tup [.list 8 (encCs l), .int .i64 p, .int .i64 w])) ∧ pureF Try.prog 18 [.p (.list 8 (encCs l))] (.p (.int .i64 er)) := by
  unfold clsB at h
  split at h
  rotate_left
  · cases h
  rename_i l p w he
  rw [Bool.and_eq_true, Bool.and_eq_true] at h
  obtain ⟨h1, h2, h3⟩ := h
  have h2 := Nat.le_of_ble_eq_true h2
  rw [decide_eq_true_eq, check2L_eq] at h3
  have hc := Clauses_spec l (by omega) (fitsC2L_of l h1)
  rw [clsT, h3] at hc
  exact ⟨l, p, w, Parse_spec' s hsz 60 10 l p w he, hc⟩

theorem ex0 : isB ⟨#[97, 32, 46, 32, 34, 120, 34]⟩ 1 0 = true := by decide +kernel
theorem ex1 : isB ⟨#[36, 97]⟩ 1 0 = true := by decide +kernel
theorem ex2 : isB ⟨#[64, 97, 32, 43, 32, 49]⟩ 2 0 = true := by decide +kernel
theorem ex3 : isB ⟨#[49, 32, 43, 32, 49, 46, 53]⟩ 3 0 = true := by decide +kernel
theorem ex4 : isB ⟨#[64, 97, 32, 47, 32, 38, 98]⟩ 3 0 = true := by decide +kernel
theorem ex5 : isB ⟨#[50, 32, 94, 32, 51]⟩ 2 0 = true := by decide +kernel
theorem ex6 : isB ⟨#[49, 46, 53, 32, 94, 32, 50]⟩ 3 0 = true := by decide +kernel
theorem ex7 : isB ⟨#[50, 32, 94, 32, 49, 46, 53]⟩ 0 200 = true := by decide +kernel
theorem ex8 : isB ⟨#[49, 46, 53, 32, 37, 32, 50]⟩ 0 200 = true := by decide +kernel
theorem ex9 : isB ⟨#[49, 32, 60, 32, 49, 46, 53]⟩ 4 0 = true := by decide +kernel
theorem ex10 : isB ⟨#[97, 32, 60, 32, 34, 98, 34]⟩ 4 0 = true := by decide +kernel
theorem ex11 : isB ⟨#[97, 32, 60, 32, 49]⟩ 0 200 = true := by decide +kernel
theorem ex12 : isB ⟨#[97, 32, 126, 61, 32, 34, 120, 34, 32, 38, 38, 32, 116, 114, 117, 101]⟩ 4 0 = true := by decide +kernel
theorem ex13 : isB ⟨#[33, 97]⟩ 0 200 = true := by decide +kernel
theorem ex14 : isB ⟨#[97, 32, 46, 32, 49]⟩ 0 200 = true := by decide +kernel
theorem ex15 : isB ⟨#[116, 114, 117, 101, 32, 61, 61, 32, 116, 114, 117, 101]⟩ 0 200 = true := by decide +kernel
theorem ex16 : isB ⟨#[45, 97]⟩ 0 200 = true := by decide +kernel
theorem ex17 : isB ⟨#[45, 49, 46, 53]⟩ 3 0 = true := by decide +kernel
theorem ex18 : isB ⟨#[64, 49]⟩ 0 200 = true := by decide +kernel
theorem ex19 : isB ⟨#[]⟩ 0 151 = true := by decide +kernel
theorem pa0 : clsB ⟨#[97, 59]⟩ 200 = true := by decide +kernel
theorem pa1 : clsB ⟨#[116, 114, 117, 101, 32, 45, 62, 32, 49, 59]⟩ 200 = true := by decide +kernel
theorem pa2 : clsB ⟨#[116, 114, 117, 101, 32, 45, 62, 32, 123, 32, 97, 59, 32, 125, 59]⟩ 200 = true := by decide +kernel
theorem pa3 : clsB ⟨#[97, 32, 61, 61, 32, 98, 32, 45, 62, 32, 99, 59, 32, 116, 114, 117, 101, 32, 45, 62, 32, 123, 32, 49, 32, 60, 32, 50, 46, 53, 32, 45, 62, 32, 97, 32, 46, 32, 98, 59, 32, 125, 59]⟩ 0 = true := by decide +kernel

theorem TypesKnown_spec : pureF Try.prog 7 [] (.p (.bool true)) := by
  refine pureF_of f7_ok fun H => ?_
  obtain ⟨l0, p0, w0, hp0, hc0⟩ := clsB_spec (by decide) pa0
  obtain ⟨l1, p1, w1, hp1, hc1⟩ := clsB_spec (by decide) pa1
  obtain ⟨l2, p2, w2, hp2, hc2⟩ := clsB_spec (by decide) pa2
  obtain ⟨l3, p3, w3, hp3, hc3⟩ := clsB_spec (by decide) pa3
  have hw := works_spec
  have c0 := (Clauses_spec [] (by decide) (fun c hc => by cases hc)).args (.p _ _ _ _ (.nils 8) .nil)
  have c1 : pureF Try.prog 18 [.p (.list 8 [.agg [.int .u8 0, .int .u8 0, .str ⟨#[]⟩, .nils, .int .u8 0, .str ⟨#[]⟩, .nils, .nils]])] (.p (.int .i64 (clsT [.mk 0 zeroE0 zeroE0 []]))) := (Clauses_spec [.mk 0 zeroE0 zeroE0 []] (by decide) (fitsC2L_of _ (by decide))).args (.p _ _ _ _ (.list (.cons _ _ _ _ (.agg (.cons _ _ _ _ (.refl _) (.cons _ _ _ _ (.refl _) (.cons _ _ _ _ (.refl _) (.cons _ _ _ _ (.nils 3) (.cons _ _ _ _ (.refl _) (.cons _ _ _ _ (.refl _) (.cons _ _ _ _ (.nils 3) (.cons _ _ _ _ (.nils 8) .nil))))))))) .nil)) .nil)
  have e1 : clsT [.mk 0 zeroE0 zeroE0 []] = 151 := by rw [clsT, ← check2L_eq]; decide
  rw [e1] at c1
  (conv => whnf)
  refine CallVC.pureF (is20_spec _ (by decide) _ _ ex0) rfl ?_
  repeat' ((conv => whnf); first | refine splitB_t rfl ?_ | refine splitB_f rfl ?_ | done)
  (conv => whnf)
  refine CallVC.pureF (is20_spec _ (by decide) _ _ ex1) rfl ?_
  repeat' ((conv => whnf); first | refine splitB_t rfl ?_ | refine splitB_f rfl ?_ | done)
  (conv => whnf)
  refine CallVC.pureF (is20_spec _ (by decide) _ _ ex2) rfl ?_
  repeat' ((conv => whnf); first | refine splitB_t rfl ?_ | refine splitB_f rfl ?_ | done)
  (conv => whnf)
  refine CallVC.pureF (is20_spec _ (by decide) _ _ ex3) rfl ?_
  repeat' ((conv => whnf); first | refine splitB_t rfl ?_ | refine splitB_f rfl ?_ | done)
  (conv => whnf)
  refine CallVC.pureF (is20_spec _ (by decide) _ _ ex4) rfl ?_
  repeat' ((conv => whnf); first | refine splitB_t rfl ?_ | refine splitB_f rfl ?_ | done)
  (conv => whnf)
  refine CallVC.pureF (is20_spec _ (by decide) _ _ ex5) rfl ?_
  repeat' ((conv => whnf); first | refine splitB_t rfl ?_ | refine splitB_f rfl ?_ | done)
  (conv => whnf)
  refine CallVC.pureF (is20_spec _ (by decide) _ _ ex6) rfl ?_
  repeat' ((conv => whnf); first | refine splitB_t rfl ?_ | refine splitB_f rfl ?_ | done)
  (conv => whnf)
  refine CallVC.pureF (is20_spec _ (by decide) _ _ ex7) rfl ?_
  repeat' ((conv => whnf); first | refine splitB_t rfl ?_ | refine splitB_f rfl ?_ | done)
  (conv => whnf)
  refine CallVC.pureF (is20_spec _ (by decide) _ _ ex8) rfl ?_
  repeat' ((conv => whnf); first | refine splitB_t rfl ?_ | refine splitB_f rfl ?_ | done)
  (conv => whnf)
  refine CallVC.pureF (is20_spec _ (by decide) _ _ ex9) rfl ?_
  repeat' ((conv => whnf); first | refine splitB_t rfl ?_ | refine splitB_f rfl ?_ | done)
  (conv => whnf)
  refine CallVC.pureF (is20_spec _ (by decide) _ _ ex10) rfl ?_
  repeat' ((conv => whnf); first | refine splitB_t rfl ?_ | refine splitB_f rfl ?_ | done)
  (conv => whnf)
  refine CallVC.pureF (is20_spec _ (by decide) _ _ ex11) rfl ?_
  repeat' ((conv => whnf); first | refine splitB_t rfl ?_ | refine splitB_f rfl ?_ | done)
  (conv => whnf)
  refine CallVC.pureF (is20_spec _ (by decide) _ _ ex12) rfl ?_
  repeat' ((conv => whnf); first | refine splitB_t rfl ?_ | refine splitB_f rfl ?_ | done)
  (conv => whnf)
  refine CallVC.pureF (is20_spec _ (by decide) _ _ ex13) rfl ?_
  repeat' ((conv => whnf); first | refine splitB_t rfl ?_ | refine splitB_f rfl ?_ | done)
  (conv => whnf)
  refine CallVC.pureF (is20_spec _ (by decide) _ _ ex14) rfl ?_
  repeat' ((conv => whnf); first | refine splitB_t rfl ?_ | refine splitB_f rfl ?_ | done)
  (conv => whnf)
  refine CallVC.pureF (is20_spec _ (by decide) _ _ ex15) rfl ?_
  repeat' ((conv => whnf); first | refine splitB_t rfl ?_ | refine splitB_f rfl ?_ | done)
  (conv => whnf)
  refine CallVC.pureF (is20_spec _ (by decide) _ _ ex16) rfl ?_
  repeat' ((conv => whnf); first | refine splitB_t rfl ?_ | refine splitB_f rfl ?_ | done)
  (conv => whnf)
  refine CallVC.pureF (is20_spec _ (by decide) _ _ ex17) rfl ?_
  repeat' ((conv => whnf); first | refine splitB_t rfl ?_ | refine splitB_f rfl ?_ | done)
  (conv => whnf)
  refine CallVC.pureF (is20_spec _ (by decide) _ _ ex18) rfl ?_
  repeat' ((conv => whnf); first | refine splitB_t rfl ?_ | refine splitB_f rfl ?_ | done)
  (conv => whnf)
  refine CallVC.pureF (is20_spec _ (by decide) _ _ ex19) rfl ?_
  repeat' ((conv => whnf); first | refine splitB_t rfl ?_ | refine splitB_f rfl ?_ | done)
  (conv => whnf)
  refine CallVC.pureF hp0 rfl ?_
  (conv => whnf)
  refine CallVC.pureF hp1 rfl ?_
  (conv => whnf)
  refine CallVC.pureF hp2 rfl ?_
  (conv => whnf)
  refine CallVC.pureF hp3 rfl ?_
  (conv => whnf)
  refine CallVC.pureF hc0 rfl ?_
  repeat' ((conv => whnf); first | refine splitB_t rfl ?_ | refine splitB_f rfl ?_ | done)
  (conv => whnf)
  refine CallVC.pureF hc1 rfl ?_
  repeat' ((conv => whnf); first | refine splitB_t rfl ?_ | refine splitB_f rfl ?_ | done)
  (conv => whnf)
  refine CallVC.pureF hc2 rfl ?_
  repeat' ((conv => whnf); first | refine splitB_t rfl ?_ | refine splitB_f rfl ?_ | done)
  (conv => whnf)
  refine CallVC.pureF hc3 rfl ?_
  repeat' ((conv => whnf); first | refine splitB_t rfl ?_ | refine splitB_f rfl ?_ | done)
  (conv => whnf)
  refine CallVC.pureF c0 rfl ?_
  repeat' ((conv => whnf); first | refine splitB_t rfl ?_ | refine splitB_f rfl ?_ | done)
  (conv => whnf)
  refine CallVC.pureF c1 rfl ?_
  repeat' ((conv => whnf); first | refine splitB_t rfl ?_ | refine splitB_f rfl ?_ | done)
  (conv => whnf)
  refine CallVC.pureF hw rfl ?_
  repeat' ((conv => whnf); first | refine splitB_t rfl ?_ | refine splitB_f rfl ?_ | done)
  (conv => whnf)
  exact ⟨rfl, rfl⟩

end Go.Proofs.Ytaanmljlbhkonaa.AD
