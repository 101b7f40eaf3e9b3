/- Chapter 22: the law CompileRows of the code. -/
import Derived.Test.YthmlninecfjjgaaG6
namespace Go.Proofs.Ythmlninecfjjgaa.AD
open Go.Proofs
set_option linter.unusedVariables false
set_option linter.unusedSimpArgs false
set_option maxRecDepth 100000

def Rng (B : Nat) (C : List Ins) : Prop := ∀ x, x ∈ C → 0 ≤ x.a ∧ x.a ≤ B
theorem Rng.app {B : Nat} {C D : List Ins} (h : Rng B C) (k : Rng B D) : Rng B (C ++ D) := fun x hx => by
  rcases List.mem_append.1 hx with hx | hx
  · exact h x hx
  · exact k x hx
theorem Rng.one {B : Nat} {x : Ins} (h : 0 ≤ x.a ∧ x.a ≤ B) : Rng B [x] := fun y hy => by
  simp only [List.mem_singleton] at hy
  subst hy; exact h
theorem Rng.cons {B : Nat} {x : Ins} {C : List Ins} (h : 0 ≤ x.a ∧ x.a ≤ B) (k : Rng B C) : Rng B (x :: C) := fun y hy => by
  rcases List.mem_cons.1 hy with rfl | hy
  · exact h
  · exact k y hy
theorem rng_ex (e : Ex) : Shaped e → ∀ (p : Nat) (T : List ByteArray) (B : Nat), p + en e ≤ B → (gT e T).length ≤ B → Rng B (gC e p T) := by
  induction e using Ex.ind with
  | h o t xs ih =>
    intro hs p T B hp hT
    rcases hs.args with ⟨h0, rfl⟩ | ⟨h0, a, rfl, ha⟩ | ⟨h0, a, c, rfl, ha, hc⟩
    · simp only [gC, gT] at hT ⊢
      split
      · rename_i hl
        rw [if_pos hl] at hT
        have := get_lt (addT_spec t T).2.1
        exact .one ⟨by simp only []; omega, by simp only []; omega⟩
      · split
        · exact .one ⟨by simp, by simp⟩
        · exact .one ⟨by simp, by simp⟩
    · simp only [gC, gT, en] at hT hp ⊢
      exact (ih a (by simp) ha p T B (by omega) hT).app (.one ⟨by simp, by simp⟩)
    · simp only [gC, gT, en] at hT hp ⊢
      obtain ⟨X, hX⟩ := gT_ext c hc (gT a T)
      have hTa : (gT a T).length ≤ B := by rw [hX, List.length_append] at hT; omega
      have h1 := ih a (by simp) ha p T B (by omega) hTa
      split
      · exact h1.app (.cons ⟨by simp only []; omega, by simp only []; omega⟩ (ih c (by simp) hc _ _ B (by omega) hT))
      · exact h1.app ((ih c (by simp) hc _ _ B (by omega) hT).app (.one ⟨by simp, by simp⟩))
theorem rng_cl : (∀ c, checkC c = true → ∀ (p : Nat) (T : List ByteArray) (B : Nat), p + cn c ≤ B → (gTc c T).length ≤ B → Rng B (gCc c p T)) ∧ ∀ l, checkL l = true → ∀ (p : Nat) (T : List ByteArray) (B : Nat), p + cns l ≤ B → (gTcs l T).length ≤ B → Rng B (gCcs l p T) := by
  have main : ∀ l : List Cl, (∀ c, c ∈ l → checkC c = true → ∀ (p : Nat) (T : List ByteArray) (B : Nat), p + cn c ≤ B → (gTc c T).length ≤ B → Rng B (gCc c p T)) → checkL l = true → ∀ (p : Nat) (T : List ByteArray) (B : Nat), p + cns l ≤ B → (gTcs l T).length ≤ B → Rng B (gCcs l p T) := by
    intro l
    induction l with
    | nil => intro _ _ p T B _ _ x hx; cases hx
    | cons c r ih =>
      intro h hc p T B hp hT
      simp only [checkL, Bool.and_eq_true] at hc
      simp only [cns, gTcs] at hp hT
      obtain ⟨X, hX⟩ := gTc_ext.2 r hc.2 (gTc c T)
      exact (h c (by simp) hc.1 p T B (by omega) (by rw [hX, List.length_append] at hT; omega)).app (ih (fun d hd => h d (by simp [hd])) hc.2 _ _ B (by omega) hT)
  have one : ∀ c, checkC c = true → ∀ (p : Nat) (T : List ByteArray) (B : Nat), p + cn c ≤ B → (gTc c T).length ≤ B → Rng B (gCc c p T) := by
    intro c
    induction c using Cl.ind with
    | h k t v l ih =>
      intro hc p T B hp hT
      obtain ⟨s1, s2, s3⟩ := checkC_parts hc
      simp only [cn, gTc] at hp hT
      have hTt : (gT t T).length ≤ B := by
        by_cases k2 : k = 2
        · rw [if_pos k2] at hT
          obtain ⟨Y, hY⟩ := gT_ext v (s2 k2) (gT t T)
          rw [hY, List.length_append] at hT; omega
        · rw [if_neg k2] at hT
          by_cases k3 : k = 3
          · rw [if_pos k3] at hT
            obtain ⟨Y, hY⟩ := gTc_ext.2 l s3 (gT t T)
            rw [hY, List.length_append] at hT; omega
          · rw [if_neg k3] at hT; exact hT
      simp only [gCc]
      refine .cons ⟨by simp only []; omega, by simp only []; omega⟩ (Rng.app (rng_ex t s1 _ _ B (by omega) hTt) (.cons ⟨by simp only []; omega, by simp only []; omega⟩ (Rng.app ?_ (.one ⟨by simp, by simp⟩))))
      by_cases k1 : k = 1
      · rw [if_pos k1]; exact .one ⟨by simp, by simp⟩
      · rw [if_neg k1] at hp ⊢
        by_cases k2 : k = 2
        · rw [if_pos k2] at hT hp ⊢
          exact (rng_ex v (s2 k2) _ _ B (by omega) hT).app (.one ⟨by simp, by simp⟩)
        · rw [if_neg k2] at hT hp ⊢
          by_cases k3 : k = 3
          · rw [if_pos k3] at hT hp ⊢
            exact main l ih s3 _ _ B (by omega) hT
          · rw [if_neg k3]; intro x hx; cases hx
  exact ⟨one, fun l => main l fun c _ => one c⟩

theorem SameTexts_spec (T : List ByteArray) (hT : T.length ≤ 1000000) : pureF Try.prog 21 [.p (.list 1 (tP T)), .p (.list 1 (tP T))] (.p (.bool true)) := by
  have hl := tP_len T
  refine pureF_of f21_ok fun H => ?_
  (conv => whnf)
  refine splitB_f (bne_self_eq_false _) ?_
  (conv => whnf)
  intro R hR
  have key : ∀ (rest : List ByteArray) (i : Nat), T.drop i = rest → R [(0, .p (.list 1 (tP T))), (1, .p (.list 1 (tP T))), (5, .p (.int .i64 i))] H [] := by
    intro rest
    induction rest with
    | nil =>
      intro i hd
      have hl := drop_nil hd
      refine hR _ _ _ ?_
      (conv => whnf)
      refine splitB_f (decide_eq_false (by omega)) ?_
      exact ⟨rfl, rfl⟩
    | cons t r ih =>
      intro i hd
      obtain ⟨hg, hd', hi⟩ := drop_cons hd
      refine hR _ _ _ ?_
      (conv => whnf)
      refine splitB_t (decide_eq_true (by omega)) ?_
      (conv => whnf)
      refine ⟨rfl, _, ⟨by omega, tP_get hg⟩, ?_⟩
      (conv => whnf)
      refine ⟨rfl, _, ⟨by omega, tP_get hg⟩, ?_⟩
      (conv => whnf)
      refine splitB_f (by simp) ?_
      (conv => whnf)
      rw [IntWalk.i64_in _ (by omega)]
      exact ih (i + 1) hd'
  exact key T 0 rfl

theorem conds_form (l : List Cl) : (clsT l = 0 ∧ ¬ limB 1 (finC l) ∧ condsR l = .tup [encPg 1 (finC l).T (finC l).C (finC l).S, .int .i64 0]) ∨ (¬ (clsT l = 0 ∧ ¬ limB 1 (finC l)) ∧ ∃ n : Int, n ≠ 0 ∧ condsR l = .tup [nilPg, .int .i64 n]) := by
  rw [condsR]
  by_cases h0 : clsT l = 0
  · by_cases h1 : limB 1 (finC l)
    · exact .inr ⟨fun h => h.2 h1, 3, by omega, by rw [if_pos h0, if_pos h1]⟩
    · exact .inl ⟨h0, h1, by rw [if_pos h0, if_neg h1]⟩
  · exact .inr ⟨fun h => h0 h.1, _, h0, by rw [if_neg h0]⟩
theorem clsT_zero (l : List Cl) : clsT l = 0 ↔ checkL l = true ∧ rightL l = true := by
  rw [clsT]
  cases checkL l <;> cases rightL l <;> simp
theorem gM_app (b : List Cl) (hb : checkL b = true) : ∀ a : List Cl, checkL a = true → gMcs (a ++ b) = max (gMcs a) (gMcs b) ∧ cns (a ++ b) = cns a + cns b ∧ (∀ T, gTcs (a ++ b) T = gTcs b (gTcs a T)) ∧ ∀ p T, gCcs (a ++ b) p T = gCcs a p T ++ gCcs b (p + cns a) (gTcs a T)
  | [], _ => by
    have := gMc_range.2 b hb
    refine ⟨by simp only [List.nil_append, gMcs]; omega, by simp [cns], fun T => rfl, fun p T => by simp [gCcs, cns, gTcs]⟩
  | c :: r, h => by
    simp only [checkL, Bool.and_eq_true] at h
    obtain ⟨h1, h2, h3, h4⟩ := gM_app b hb r h.2
    refine ⟨by simp only [List.cons_append, gMcs, h1]; omega, by simp only [List.cons_append, cns, h2]; omega, fun T => by simp only [List.cons_append, gTcs, h3], fun p T => ?_⟩
    simp only [List.cons_append, gCcs, gTcs, cns, h4, List.append_assoc]
    rw [Nat.add_assoc]
theorem ok_app (a b : List Cl) (ha : cszs a ≤ 4000) (hb : cszs b ≤ 4000) : (clsT (a ++ b) = 0 ∧ ¬ limB 1 (finC (a ++ b))) ↔ ((clsT a = 0 ∧ ¬ limB 1 (finC a)) ∧ (clsT b = 0 ∧ ¬ limB 1 (finC b))) := by
  obtain ⟨_, e2, e3, _, e5⟩ := app_enc b a
  simp only [clsT_zero]
  rw [e2, e3, Bool.and_eq_true, Bool.and_eq_true]
  constructor
  · rintro ⟨⟨⟨h1, h2⟩, h3, h4⟩, h5⟩
    have g := (gM_app b h2 a h1).1
    rw [lim_small _ (by rw [e2, h1, h2]; rfl) (by omega), g] at h5
    exact ⟨⟨⟨h1, h3⟩, by rw [lim_small _ h1 (by omega)]; omega⟩, ⟨h2, h4⟩, by rw [lim_small _ h2 (by omega)]; omega⟩
  · rintro ⟨⟨⟨h1, h3⟩, h5⟩, ⟨h2, h4⟩, h6⟩
    have g := (gM_app b h2 a h1).1
    rw [lim_small _ h1 (by omega)] at h5
    rw [lim_small _ h2 (by omega)] at h6
    exact ⟨⟨⟨h1, h2⟩, h3, h4⟩, by rw [lim_small _ (by rw [e2, h1, h2]; rfl) (by omega), g]; omega⟩

theorem end_mv (n : Nat) (Tq Ta : List ByteArray) : MvI n Tq Ta ⟨33, 0, 0⟩ ⟨33, 0, 0⟩ := .plain _ _ (by decide) (by decide)

set_option maxHeartbeats 8000000 in
theorem CompileRows_spec (a b : List Cl) (hla : (a.length : Int) ≤ 9223372036854775807) (hfa : ∀ c, c ∈ a → FitsC c) (hlb : (b.length : Int) ≤ 9223372036854775807) (hfb : ∀ c, c ∈ b → FitsC c) : pureF Try.prog 5 [.p (.list 8 (encCs a)), .p (.list 8 (encCs b))] (.p (.bool true)) := by
  refine pureF_of f5_ok fun H => ?_
  have hwa := Weights_spec a hla hfa 4000 (by omega) (by omega)
  have hwb := Weights_spec b hlb hfb 4000 (by omega) (by omega)
  have hw := works_spec
  have hea := encCs_len a
  have heb := encCs_len b
  (conv => whnf)
  refine CallVC.pureF hwa rfl ?_
  (conv => whnf)
  refine splitB_dec (fun h1 => ?_) (fun h1 => ?_)
  · repeat' ((conv => whnf); first | refine CallVC.pureF hw rfl ?_ | refine splitB_t rfl ?_ | exact ⟨rfl, rfl⟩)
  (conv => whnf)
  refine CallVC.pureF hwb rfl ?_
  (conv => whnf)
  refine splitB_dec (fun h2 => ?_) (fun h2 => ?_)
  · repeat' ((conv => whnf); first | refine CallVC.pureF hw rfl ?_ | refine splitB_t rfl ?_ | exact ⟨rfl, rfl⟩)
  obtain ⟨fa1, fa2, fa3⟩ := fewDs_of a 4000 (by omega) (by omega)
  obtain ⟨fb1, fb2, fb3⟩ := fewDs_of b 4000 (by omega) (by omega)
  have za := wCs_csz a 4000 (by omega)
  have zb := wCs_csz b 4000 (by omega)
  have hca := Conds_pure a hla hfa (by omega)
  have hcb := Conds_pure b hlb hfb (by omega)
  obtain ⟨e1, e2, e3, e4, e5⟩ := app_enc b a
  have hcall := Conds_VC (a ++ b) (by simp; omega) (fun c hc => by rcases List.mem_append.1 hc with h | h; exact hfa c h; exact hfb c h) (by omega)
  have hok := ok_app a b (by omega) (by omega)
  have heab : (encCs a).length + (encCs b).length = (encCs (a ++ b)).length := by rw [e1, List.length_append]
  rcases conds_form (a ++ b) with ⟨o1, o2, o3⟩ | ⟨o1, g, o2, o3⟩
  · obtain ⟨⟨a1, a2⟩, b1, b2⟩ := hok.1 ⟨o1, o2⟩
    have ra : condsR a = .tup [encPg 1 (finC a).T (finC a).C (finC a).S, .int .i64 0] := by rw [condsR, if_pos a1, if_neg a2]
    have rb : condsR b = .tup [encPg 1 (finC b).T (finC b).C (finC b).S, .int .i64 0] := by rw [condsR, if_pos b1, if_neg b2]
    have ka := ((clsT_zero a).1 a1).1
    have kb := ((clsT_zero b).1 b1).1
    have na := cn_csz.2 a ka
    have nb := cn_csz.2 b kb
    obtain ⟨m1, m2, m3, m4⟩ := gM_app b kb a ka
    have ga := finC_gen a ka (by omega)
    have gb := finC_gen b kb (by omega)
    have gab := finC_gen (a ++ b) (by rw [e2, ka, kb]; rfl) (by rw [m2]; omega)
    have la := gCc_len.2 a ka 0 []
    have lb := gCc_len.2 b kb 0 []
    have ta := bm_gTc.2 a ka []
    have tb := bm_gTc.2 b kb []
    have e0 : bm [] = 0 := rfl
    have ta2 := bm_len (gTcs a [])
    have tb2 := bm_len (gTcs b [])
    obtain ⟨X, hX⟩ := gTc_ext.2 b kb (gTcs a [])
    have tab := bm_gTc.2 b kb (gTcs a [])
    have tab2 := bm_len (gTcs b (gTcs a []))
    have hmv := mv_cl.2 b kb (cns a) 0 [] (gTcs a []) (gTcs b []) (gTcs b (gTcs a [])) ⟨[], by simp⟩ ⟨[], by simp⟩
    have hmv := hmv.append (.cons _ _ _ _ (end_mv (cns a) (gTcs b []) (gTcs b (gTcs a []))) .nil)
    have hrg : Rng 100000 (gCcs b 0 [] ++ [⟨33, 0, 0⟩]) := (rng_cl.2 b kb 0 [] 100000 (by omega) (by omega)).app (.one ⟨by simp, by simp⟩)
    rw [m3, m4] at gab
    rw [gab] at o3
    rw [ga] at ra
    rw [gb] at rb
    rw [ra] at hca
    rw [rb] at hcb
    rw [o3] at hcall
    have hlen := hmv.len
    have bA : (gCcs a 0 []).length ≤ 8000 := by omega
    have bQ : (gCcs b 0 [] ++ [(⟨33, 0, 0⟩ : Ins)]).length ≤ 8001 := by simp only [List.length_append, List.length_singleton]; omega
    have hsame := SameTexts_spec (gTcs a []) (by omega)
    generalize gCcs a 0 [] = Ca at *
    generalize gTcs a [] = Ta at *
    generalize gTcs b [] = Tb at *
    generalize gTcs b Ta = Tab at *
    simp only [Nat.zero_add, m1] at *
    rw [← la] at *
    have ecode : Ca ++ gCcs b Ca.length Ta ++ [⟨33, 0, 0⟩] = Ca ++ (gCcs b Ca.length Ta ++ [(⟨33, 0, 0⟩ : Ins)]) := by rw [List.append_assoc]
    simp only [ecode] at *
    generalize gCcs b Ca.length Ta ++ [⟨33, 0, 0⟩] = A2 at *
    generalize gCcs b 0 [] ++ [⟨33, 0, 0⟩] = Q at *
    have hTl := tP_len Ta
    have hTab := tP_len Tab
    have hTb := tP_len Tb
    have hCl := cP_len (Ca ++ [(⟨33, 0, 0⟩ : Ins)])
    have hAl := cP_len (Ca ++ A2)
    have hQl := cP_len Q
    (conv => whnf)
    refine CallVC.pureF hca rfl ?_
    (conv => whnf)
    refine CallVC.pureF hcb rfl ?_
    (conv => whnf)
    refine ⟨rfl, ?_⟩
    (conv => whnf)
    refine ⟨by simp [room]; omega, ?_⟩
    (conv => whnf)
    refine ⟨rfl, ?_⟩
    (conv => whnf)
    refine ⟨⟨rfl, rfl, rfl, Nat.le_refl _⟩, by simp [room]; omega, encCs (a ++ b), by rw [List.take_length, e1], ?_⟩
    (conv => whnf)
    refine CallVC.lendN hcall (.cons _ _ _ _ (Lend.all _ _ _ _ rfl heab) .nil) ?_
    repeat' ((conv => whnf); first | refine splitB_f rfl ?_ | refine splitB_t rfl ?_)
    have w1 : IntKind.i64.wrap (((cP (Ca ++ [(⟨33, 0, 0⟩ : Ins)])).length : Int) - 1) = Ca.length := by
      rw [hCl, List.length_append]
      rw [IntWalk.i64_in _ (by simp; omega)]
      simp
    have htk : (tP Tab).take (((tP Ta).length : Int)).toNat = tP Ta := by
      have : tP Tab = tP Ta ++ tP X := by rw [hX]; simp [tP]
      rw [this, Int.toNat_natCast]
      exact List.take_left
    rw [w1]
    (conv => whnf)
    refine splitB_f (bne_eq_false_iff_eq.2 ?_) ?_
    · rw [IntWalk.i64_in _ (by rw [hQl]; omega), hAl, hQl, List.length_append, hlen]
      push_cast
      rfl
    (conv => whnf)
    refine splitB_f (bne_eq_false_iff_eq.2 ?_) ?_
    · show max (gMcs a) (gMcs b) = if gMcs b > gMcs a then gMcs b else gMcs a
      split <;> omega
    (conv => whnf)
    refine splitB_f (decide_eq_false (by rw [hTab, hTl, hX, List.length_append]; omega)) ?_
    (conv => whnf)
    refine ⟨rfl, ⟨by omega, by rw [hTab, hTl, hX, List.length_append]; omega⟩, ?_⟩
    rw [htk]
    (conv => whnf)
    refine CallD.pureF hsame rfl ?_
    repeat' ((conv => whnf); first | refine splitB_f rfl ?_ | refine splitB_t rfl ?_)
    (conv => whnf)
    intro R hR
    have key : ∀ (d i : Nat), i + d = Ca.length → R [(5, .ref (.l 0) 0), (7, .ref (.l 1) 0), (10, .ref (.l 3) 0), (12, .p (.int .i64 Ca.length)), (13, .p (.int .i64 i))] H [.cells [.p (.int .u8 1), .p (.list 1 (tP Ta)), .p (.list 3 (cP (Ca ++ [⟨33, 0, 0⟩]))), .p (.int .i64 (gMcs a))], .cells [.p (.int .u8 1), .p (.list 1 (tP Tb)), .p (.list 3 (cP Q)), .p (.int .i64 (gMcs b))], .buf 1 8 (encCs (a ++ b)), .cells [.p (.int .u8 1), .p (.list 1 (tP Tab)), .p (.list 3 (cP (Ca ++ A2))), .p (.int .i64 (max (gMcs a) (gMcs b)))]] := by
      intro d
      induction d with
      | zero =>
        intro i hd
        refine hR _ _ _ ?_
        (conv => whnf)
        refine splitB_f (decide_eq_false (by omega)) ?_
        (conv => whnf)
        intro R2 hR2
        have key2 : ∀ (rest : List Ins) (i : Nat), Q.drop i = rest → R2 [(7, .ref (.l 1) 0), (10, .ref (.l 3) 0), (12, .p (.int .i64 Ca.length)), (14, .p (.int .i64 i))] H [.cells [.p (.int .u8 1), .p (.list 1 (tP Ta)), .p (.list 3 (cP (Ca ++ [⟨33, 0, 0⟩]))), .p (.int .i64 (gMcs a))], .cells [.p (.int .u8 1), .p (.list 1 (tP Tb)), .p (.list 3 (cP Q)), .p (.int .i64 (gMcs b))], .buf 1 8 (encCs (a ++ b)), .cells [.p (.int .u8 1), .p (.list 1 (tP Tab)), .p (.list 3 (cP (Ca ++ A2))), .p (.int .i64 (max (gMcs a) (gMcs b)))]] := by
          intro rest
          induction rest with
          | nil =>
            intro i hd
            have hl := drop_nil hd
            refine hR2 _ _ _ ?_
            (conv => whnf)
            refine splitB_f (decide_eq_false (by omega)) ?_
            (conv => whnf)
            refine CallVC.pureF hw rfl ?_
            exact ⟨rfl, rfl⟩
          | cons x r ih =>
            intro i hd
            obtain ⟨hg, hd', hi⟩ := drop_cons hd
            obtain ⟨y, hy, hxy⟩ := hmv.get hg
            have hxr := hrg x (List.mem_of_getElem? hg)
            have hmov := moved_spec Ca.length Tb Tab Q (Ca ++ A2) (gMcs b) (max (gMcs a) (gMcs b)) x y hxy (by omega) ⟨hxr.1, by omega⟩
            have hy2 : (Ca ++ A2)[Ca.length + i]? = some y := by rw [List.getElem?_append_right (by omega), Nat.add_sub_cancel_left]; exact hy
            have hyc := cP_get hy2
            have heq := eqCells_ins y
            have hwr : IntKind.i64.wrap ((Ca.length : Int) + (i : Int)) = ((Ca.length + i : Nat) : Int) := by rw [IntWalk.i64_in _ (by omega)]; push_cast; rfl
            have htext := hxy.text
            obtain ⟨o, xa, xb⟩ := x
            obtain ⟨yo, ya, yb⟩ := y
            refine hR2 _ _ _ ?_
            (conv => whnf)
            refine splitB_t (decide_eq_true (by omega)) ?_
            (conv => whnf)
            refine ⟨rfl, insP ⟨o, xa, xb⟩, ⟨by omega, cP_get hg⟩, ?_⟩
            by_cases ht : tx o
            · obtain ⟨ti, tj, ts, q1, q2, q3, q4⟩ := htext ht
              have hlt := get_lt q3
              have q1 : xa = ti := q1
              subst q1
              rcases ht with e | e | e | e
              all_goals
                repeat' ((conv => whnf); first | refine splitB_t rfl ?_ | refine splitB_f rfl ?_ | refine splitB_t (beq_iff_eq.2 e) ?_ | refine splitB_f (beq_eq_false_iff_ne.2 (fun h => absurd (e.symm.trans h) (by decide))) ?_ | done)
                refine splitB_f (decide_eq_false (by rw [hTb]; show ¬ ((ti : Int) ≥ (Tb.length : Int)); omega)) ?_
                repeat' ((conv => whnf); first | refine splitB_f rfl ?_ | done)
                (conv => whnf)
                rw [hwr]
                refine ⟨rfl, insP ⟨yo, ya, yb⟩, ⟨by omega, by rw [Int.toNat_natCast]; exact hyc⟩, ?_⟩
                (conv => whnf)
                refine CallD.pureF hmov rfl ?_
                (conv => whnf)
                refine ⟨true, heq, ?_⟩
                (conv => whnf)
                refine splitB_f rfl ?_
                (conv => whnf)
                rw [IntWalk.i64_in _ (by omega)]
                exact ih (i + 1) hd'
            · have n1 : o ≠ 1 := fun e => ht (.inl e)
              have n2 : o ≠ 2 := fun e => ht (.inr (.inl e))
              have n3 : o ≠ 3 := fun e => ht (.inr (.inr (.inl e)))
              have n4 : o ≠ 4 := fun e => ht (.inr (.inr (.inr e)))
              repeat' ((conv => whnf); first | refine splitB_t rfl ?_ | refine splitB_f rfl ?_ | refine splitB_f (beq_eq_false_iff_ne.2 n1) ?_ | refine splitB_f (beq_eq_false_iff_ne.2 n2) ?_ | refine splitB_f (beq_eq_false_iff_ne.2 n3) ?_ | refine splitB_f (beq_eq_false_iff_ne.2 n4) ?_ | done)
              (conv => whnf)
              rw [hwr]
              refine ⟨rfl, insP ⟨yo, ya, yb⟩, ⟨by omega, by rw [Int.toNat_natCast]; exact hyc⟩, ?_⟩
              (conv => whnf)
              refine CallD.pureF hmov rfl ?_
              (conv => whnf)
              refine ⟨true, heq, ?_⟩
              (conv => whnf)
              refine splitB_f rfl ?_
              (conv => whnf)
              rw [IntWalk.i64_in _ (by omega)]
              exact ih (i + 1) hd'
        exact key2 Q 0 rfl
      | succ d ih =>
        intro i hd
        have g1 : Ca[i]? = some (Ca[i]'(by omega)) := List.getElem?_eq_getElem (by omega)
        have g2 : (Ca ++ A2)[i]? = some (Ca[i]'(by omega)) := by rw [List.getElem?_append_left (by omega)]; exact g1
        have g3 : (Ca ++ [(⟨33, 0, 0⟩ : Ins)])[i]? = some (Ca[i]'(by omega)) := by rw [List.getElem?_append_left (by omega)]; exact g1
        refine hR _ _ _ ?_
        (conv => whnf)
        refine splitB_t (decide_eq_true (by omega)) ?_
        (conv => whnf)
        refine ⟨rfl, insP _, ⟨by omega, cP_get g2⟩, ?_⟩
        (conv => whnf)
        refine ⟨rfl, insP _, ⟨by omega, cP_get g3⟩, ?_⟩
        (conv => whnf)
        refine ⟨true, eqCells_ins _, ?_⟩
        (conv => whnf)
        refine splitB_f rfl ?_
        (conv => whnf)
        rw [IntWalk.i64_in _ (by omega)]
        exact ih (i + 1) (by omega)
    exact key Ca.length 0 (by omega)
  · rw [o3] at hcall
    have fin : ∀ (ka kb : Int) (Ta Tb Ca Cb : PV) (Sa Sb ea eb : Int), condsR a = .tup [.agg [.int .u8 ka, Ta, Ca, .int .i64 Sa], .int .i64 ea] → condsR b = .tup [.agg [.int .u8 kb, Tb, Cb, .int .i64 Sb], .int .i64 eb] → (ea ≠ 0 ∨ ea = 0 ∧ eb ≠ 0) → ((Ta = .nils ∧ Ca = .nils) ∨ ∃ es fs, Ta = .list 1 es ∧ Ca = .list 3 fs) → ((Tb = .nils ∧ Cb = .nils) ∨ ∃ es fs, Tb = .list 1 es ∧ Cb = .list 3 fs) → W Try.prog f5.c59 [(0, .p (.list 8 (encCs a))), (1, .p (.list 8 (encCs b)))] H [] (endQ f5 fun r' H' => r' = .p (.bool true) ∧ H' = H) := by
      intro ka kb Ta Tb Ca Cb Sa Sb ea eb ra rb he sa sb
      rw [ra] at hca
      rw [rb] at hcb
      rcases sa with ⟨rfl, rfl⟩ | ⟨_, _, rfl, rfl⟩ <;> rcases sb with ⟨rfl, rfl⟩ | ⟨_, _, rfl, rfl⟩
      all_goals
        (conv => whnf)
        refine CallVC.pureF hca rfl ?_
        (conv => whnf)
        refine CallVC.pureF hcb rfl ?_
        (conv => whnf)
        refine ⟨rfl, ?_⟩
        (conv => whnf)
        refine ⟨by simp [room]; omega, ?_⟩
        (conv => whnf)
        refine ⟨rfl, ?_⟩
        (conv => whnf)
        refine ⟨⟨rfl, rfl, rfl, Nat.le_refl _⟩, by simp [room]; omega, encCs (a ++ b), by rw [List.take_length, e1], ?_⟩
        (conv => whnf)
        refine CallVC.lendN hcall (.cons _ _ _ _ (Lend.all _ _ _ _ rfl heab) .nil) ?_
        (conv => whnf)
        rcases he with he | ⟨he, he2⟩
        · refine splitB_t (bne_iff_ne.2 he) ?_
          repeat' ((conv => whnf); first | refine CallVC.pureF hw rfl ?_ | refine splitB_t (bne_iff_ne.2 o2) ?_ | refine splitB_t rfl ?_ | refine splitB_f rfl ?_ | exact ⟨rfl, rfl⟩)
        · refine splitB_f (bne_eq_false_iff_eq.2 he) ?_
          (conv => whnf)
          refine splitB_t (bne_iff_ne.2 he2) ?_
          repeat' ((conv => whnf); first | refine CallVC.pureF hw rfl ?_ | refine splitB_t (bne_iff_ne.2 o2) ?_ | refine splitB_t rfl ?_ | refine splitB_f rfl ?_ | exact ⟨rfl, rfl⟩)
    have q : W Try.prog f5.c59 [(0, .p (.list 8 (encCs a))), (1, .p (.list 8 (encCs b)))] H [] (endQ f5 fun r' H' => r' = .p (.bool true) ∧ H' = H) := by
      rcases conds_form a with ⟨a1, a2, a3⟩ | ⟨a1, n, a2, a3⟩
      · rcases conds_form b with ⟨b1, b2, b3⟩ | ⟨b1, m, b2, b3⟩
        · exact absurd (hok.2 ⟨⟨a1, a2⟩, b1, b2⟩) o1
        · exact fin _ _ _ _ _ _ _ _ _ _ a3 b3 (.inr ⟨rfl, b2⟩) (.inr ⟨_, _, rfl, rfl⟩) (.inl ⟨rfl, rfl⟩)
      · rcases conds_form b with ⟨b1, b2, b3⟩ | ⟨b1, m, b2, b3⟩
        · exact fin _ _ _ _ _ _ _ _ _ _ a3 b3 (.inl a2) (.inl ⟨rfl, rfl⟩) (.inr ⟨_, _, rfl, rfl⟩)
        · exact fin _ _ _ _ _ _ _ _ _ _ a3 b3 (.inl a2) (.inl ⟨rfl, rfl⟩) (.inl ⟨rfl, rfl⟩)
    (conv at q => whnf)
    (conv => whnf)
    exact q

end Go.Proofs.Ythmlninecfjjgaa.AD
