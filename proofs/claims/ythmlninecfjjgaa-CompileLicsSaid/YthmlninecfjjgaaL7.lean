/- Chapter 22: may a program be written: the document's answer. -/
import Derived.Test.YthmlninecfjjgaaL6
namespace Go.Proofs.Ythmlninecfjjgaa.AD
open Go.Proofs
set_option linter.unusedVariables false
set_option linter.unusedSimpArgs false
set_option maxRecDepth 100000

def insSz (x : Ins) : Int := 1 + (if hasA x.op then szN 5 x.a else 0) + (if hasB x.op then szN 5 x.b else 0)
def codeSz : List Ins → Int
  | [] => 0
  | x :: r => insSz x + codeSz r
def txtSz : List ByteArray → Int
  | [] => 0
  | t :: r => szN 5 t.size + t.size + txtSz r
theorem insSz_range (x : Ins) : 1 ≤ insSz x ∧ insSz x ≤ 13 := by
  have h1 := szN_range 5 x.a
  have h2 := szN_range 5 x.b
  simp only [insSz]
  (repeat' split) <;> omega
theorem codeSz_range (C : List Ins) : 0 ≤ codeSz C ∧ codeSz C ≤ 13 * C.length := by
  induction C with
  | nil => simp [codeSz]
  | cons x r ih => have := insSz_range x; simp only [codeSz, List.length_cons]; omega
theorem txtSz_nonneg (T : List ByteArray) : 0 ≤ txtSz T := by
  induction T with
  | nil => simp [txtSz]
  | cons t r ih => have := szN_range 5 t.size; simp only [txtSz]; omega

def hdSz (T : List ByteArray) (C : List Ins) (S : Int) : Int := 3 + szN 5 S + szN 5 T.length + szN 5 C.length
def errP (κ : Int) (T : List ByteArray) (C : List Ins) (S : Int) : Int :=
  if 32768 < C.length ∨ 8192 < T.length then 3
  else if (κ ≠ 1 ∧ κ ≠ 2) ∨ fitsB S = false ∨ C.all insOk = false then 210
  else if 1048576 < hdSz T C S + codeSz C + txtSz T then 3 else 0
def encPg (κ : Int) (T : List ByteArray) (C : List Ins) (S : Int) : PV := .agg [.int .u8 κ, .list 1 (tP T), .list 3 (cP C), .int .i64 S]
theorem cP_get {C : List Ins} {i : Nat} {x : Ins} (h : C[i]? = some x) : (cP C)[i]? = some (insP x) := by rw [cP, List.getElem?_map, h]; rfl
theorem tP_get {T : List ByteArray} {i : Nat} {x : ByteArray} (h : T[i]? = some x) : (tP T)[i]? = some (.str x) := by rw [tP, List.getElem?_map, h]; rfl

theorem insOk_fits {x : Ins} (h : insOk x = true) : (0 ≤ x.a ∧ x.a ≤ 2147483647) ∧ 0 ≤ x.b ∧ x.b ≤ 2147483647 := by
  simp only [insOk, fitsB, Bool.and_eq_true, decide_eq_true_eq] at h
  omega

theorem refCheck21_spec (κ : Int) (T : List ByteArray) (C : List Ins) (S : Int) (hTl : T.length ≤ 1000000000) (hCl : C.length ≤ 1000000000) (hts : ∀ t, t ∈ T → t.size ≤ 1000000000) : pureF Try.prog 50 [.p (encPg κ T C S)] (.p (.int .i64 (errP κ T C S))) := by
  have hT := tP_len T
  have hC := cP_len C
  have hfS := fits_spec S
  refine pureF_of f50_ok fun H => ?_
  (conv => whnf)
  by_cases hlim : 32768 < C.length ∨ 8192 < T.length
  · have e : errP κ T C S = 3 := by rw [errP, if_pos hlim]
    rw [e]
    refine splitB_dec (fun h => ?_) (fun h => ?_)
    · (conv => whnf)
      refine splitB_t rfl ?_
      exact ⟨rfl, rfl⟩
    · (conv => whnf)
      refine splitB_t (decide_eq_true (by omega)) ?_
      exact ⟨rfl, rfl⟩
  · refine splitB_f (decide_eq_false (by omega)) ?_
    (conv => whnf)
    refine splitB_f (decide_eq_false (by omega)) ?_
    (conv => whnf)
    have hsS : 0 ≤ S → S ≤ 2147483647 → _ := fun a b => size_spec S a b
    have hsT := size_spec T.length (by omega) (by omega)
    have hsC := size_spec C.length (by omega) (by omega)
    have hh1 := szN_range 5 S
    have hh2 := szN_range 5 T.length
    have hh3 := szN_range 5 C.length
    have last : (κ = 1 ∨ κ = 2) → fitsB S = true → W Try.prog f50.c50 [(1, .ref (.l 0) 0)] H [.cells [.p (.int .u8 κ), .p (.list 1 (tP T)), .p (.list 3 (cP C)), .p (.int .i64 S)]] (endQ f50 fun r' H' => r' = .p (.int .i64 (errP κ T C S)) ∧ H' = H) := by
      intro hk hS
      have hS' : 0 ≤ S ∧ S ≤ 2147483647 := by simpa [fitsB] using hS
      have e1 : errP κ T C S = if C.all insOk = false then 210 else if 1048576 < hdSz T C S + codeSz C + txtSz T then 3 else 0 := by
        rw [errP, if_neg hlim]
        by_cases h : C.all insOk = false
        · rw [if_pos (.inr (.inr h)), if_pos h]
        · rw [if_neg (by rw [hS]; simp; exact ⟨by omega, by simpa using h⟩), if_neg h]
      (conv => whnf)
      refine CallD.pureF (hsS hS'.1 hS'.2) rfl ?_
      (conv => whnf)
      rw [IntWalk.i64_in (3 + szN 5 S) (by omega), hT]
      refine CallD.pureF hsT rfl ?_
      (conv => whnf)
      rw [IntWalk.i64_in (3 + szN 5 S + szN 5 T.length) (by omega), hC]
      refine CallD.pureF hsC rfl ?_
      (conv => whnf)
      rw [IntWalk.i64_in (3 + szN 5 S + szN 5 T.length + szN 5 C.length) (by omega)]
      have hhd : hdSz T C S = 3 + szN 5 S + szN 5 T.length + szN 5 C.length := rfl
      intro R hR
      have texts : C.all insOk = true → ∀ n0 : Int, n0 = hdSz T C S + codeSz C → (0 ≤ n0 ∧ n0 ≤ 1000000) → W Try.prog f50.c48 [(1, .ref (.l 0) 0), (3, .p (.int .i64 n0))] H [.cells [.p (.int .u8 κ), .p (.list 1 (tP T)), .p (.list 3 (cP C)), .p (.int .i64 S)]] (endQ f50 fun r' H' => r' = .p (.int .i64 (errP κ T C S)) ∧ H' = H) := by
        intro hall n0 hn0 hnb
        rw [if_neg (by rw [hall]; simp), ← hn0] at e1
        (conv => whnf)
        intro R2 hR2
        have key : ∀ (rest : List ByteArray) (i : Nat) (n : Int), T.drop i = rest → 0 ≤ n → n ≤ 2000000000000 → n + txtSz rest = n0 + txtSz T → R2 [(1, .ref (.l 0) 0), (3, .p (.int .i64 n)), (6, .p (.int .i64 i))] H [.cells [.p (.int .u8 κ), .p (.list 1 (tP T)), .p (.list 3 (cP C)), .p (.int .i64 S)]] := by
          intro rest
          induction rest with
          | nil =>
            intro i n hd g0 g1 hq
            have hl := drop_nil hd
            have htot : n = n0 + txtSz T := by simp only [txtSz] at hq; omega
            refine hR2 _ _ _ ?_
            (conv => whnf)
            refine splitB_f (decide_eq_false (by omega)) ?_
            (conv => whnf)
            refine splitB_f rfl ?_
            (conv => whnf)
            refine splitB_dec (fun h => ?_) (fun h => ?_)
            · exact ⟨by rw [e1, if_pos (by omega)], rfl⟩
            · exact ⟨by rw [e1, if_neg (by omega)], rfl⟩
          | cons t r ihr =>
            intro i n hd g0 g1 hq
            obtain ⟨hg, hd', hi⟩ := drop_cons hd
            have hsz := hts t (List.mem_of_getElem? hg)
            have hst := size_spec t.size (by omega) (by omega)
            have hrg := szN_range 5 t.size
            have hnn := txtSz_nonneg r
            simp only [txtSz] at hq
            refine hR2 _ _ _ ?_
            (conv => whnf)
            refine splitB_t (decide_eq_true (by omega)) ?_
            (conv => whnf)
            refine splitB_dec (fun h => ?_) (fun h => ?_)
            · (conv => whnf)
              refine ⟨rfl, .str t, ⟨by omega, tP_get hg⟩, ?_⟩
              (conv => whnf)
              refine CallD.pureF hst rfl ?_
              (conv => whnf)
              rw [IntWalk.i64_in (n + szN 5 t.size) (by omega)]
              refine ⟨rfl, .str t, ⟨by omega, tP_get hg⟩, ?_⟩
              (conv => whnf)
              rw [IntWalk.i64_in (n + szN 5 t.size + t.size) (by omega), IntWalk.i64_in (i + 1) (by omega)]
              exact ihr (i + 1) _ hd' (by omega) (by omega) (by omega)
            · (conv => whnf)
              refine splitB_t (decide_eq_true (by omega)) ?_
              exact ⟨by rw [e1, if_pos (by omega)], rfl⟩
        exact key T 0 n0 rfl hnb.1 (by omega) rfl
      have key : ∀ (rest : List Ins) (i : Nat) (n : Int), C.drop i = rest → 0 ≤ n → n ≤ 22 + 13 * i → n + codeSz rest = hdSz T C S + codeSz C → C.all insOk = rest.all insOk → R [(1, .ref (.l 0) 0), (3, .p (.int .i64 n)), (4, .p (.int .i64 i))] H [.cells [.p (.int .u8 κ), .p (.list 1 (tP T)), .p (.list 3 (cP C)), .p (.int .i64 S)]] := by
        intro rest
        induction rest with
        | nil =>
          intro i n hd g0 g1 hq ha
          have hl := drop_nil hd
          refine hR _ _ _ ?_
          (conv => whnf)
          refine splitB_f (decide_eq_false (by omega)) ?_
          have hr := codeSz_range C
          have q := texts (by rw [ha]; rfl) n (by simp only [codeSz] at hq; omega) (by simp only [codeSz] at hq; omega)
          (conv at q => whnf)
          (conv => whnf)
          exact q
        | cons x r ihr =>
          intro i n hd g0 g1 hq ha
          obtain ⟨hg, hd', hi⟩ := drop_cons hd
          have hins := instr_spec x
          have hA := hasA_spec x.op
          have hB := hasB_spec x.op
          have hrg := insSz_range x
          have hdef : insSz x = 1 + (if hasA x.op then szN 5 x.a else 0) + (if hasB x.op then szN 5 x.b else 0) := rfl
          have hra := szN_range 5 x.a
          have hrb := szN_range 5 x.b
          simp only [codeSz] at hq
          rw [List.all_cons] at ha
          cases hok : insOk x with
          | false =>
            have e2 : errP κ T C S = 210 := by rw [e1, if_pos (by rw [ha, hok]; rfl)]
            rw [hok] at hins
            refine hR _ _ _ ?_
            (conv => whnf)
            refine splitB_t (decide_eq_true (by omega)) ?_
            (conv => whnf)
            refine ⟨rfl, insP x, ⟨by omega, cP_get hg⟩, ?_⟩
            (conv => whnf)
            refine CallVC.pureF hins rfl ?_
            (conv => whnf)
            refine splitB_t rfl ?_
            exact ⟨by rw [e2], rfl⟩
          | true =>
            obtain ⟨⟨a1, a2⟩, b1, b2⟩ := insOk_fits hok
            have hsa := size_spec x.a a1 a2
            have hsb := size_spec x.b b1 b2
            rw [hok, Bool.true_and] at ha
            rw [hok] at hins
            have next := fun n' (hn' : n' = n + insSz x) => ihr (i + 1) n' hd' (by omega) (by push_cast; omega) (by omega) ha
            generalize hasA x.op = va at hA hdef
            generalize hasB x.op = vb at hB hdef
            refine hR _ _ _ ?_
            (conv => whnf)
            refine splitB_t (decide_eq_true (by omega)) ?_
            (conv => whnf)
            refine ⟨rfl, insP x, ⟨by omega, cP_get hg⟩, ?_⟩
            (conv => whnf)
            refine CallVC.pureF hins rfl ?_
            (conv => whnf)
            refine splitB_f rfl ?_
            (conv => whnf)
            rw [IntWalk.i64_in (n + 1) (by omega)]
            refine CallVC.pureF hA rfl ?_
            cases va <;> cases vb
            all_goals simp only [Bool.false_eq_true, if_false, if_true] at hdef
            all_goals repeat' ((conv => whnf); first | refine splitB_t rfl ?_ | refine splitB_f rfl ?_ | refine CallVC.pureF hB rfl ?_ | refine CallVC.pureF hsa rfl ?_ | refine CallVC.pureF hsb rfl ?_)
            all_goals (try (conv => whnf))
            · rw [IntWalk.i64_in (i + 1) (by omega)]
              exact next _ (by omega)
            · rw [IntWalk.i64_in (n + 1 + szN 5 x.b) (by omega), IntWalk.i64_in (i + 1) (by omega)]
              exact next _ (by omega)
            · rw [IntWalk.i64_in (n + 1 + szN 5 x.a) (by omega), IntWalk.i64_in (i + 1) (by omega)]
              exact next _ (by omega)
            · rw [IntWalk.i64_in (n + 1 + szN 5 x.a) (by omega), IntWalk.i64_in (n + 1 + szN 5 x.a + szN 5 x.b) (by omega), IntWalk.i64_in (i + 1) (by omega)]
              exact next _ (by omega)
      exact key C 0 _ rfl (by omega) (by omega) rfl rfl
    have bad : ((κ ≠ 1 ∧ κ ≠ 2) ∨ fitsB S = false) → errP κ T C S = 210 := fun h => by
      rw [errP, if_neg hlim, if_pos]
      rcases h with h | h
      · exact .inl h
      · exact .inr (.inl h)
    rcases (show κ = 1 ∨ κ = 2 ∨ (κ ≠ 1 ∧ κ ≠ 2) by omega) with hk | hk | ⟨n1, n2⟩
    · subst hk
      cases hS : fitsB S with
      | false =>
        rw [hS] at hfS
        repeat' ((conv => whnf); first | refine CallVC.pureF hfS rfl ?_ | refine splitB_t rfl ?_ | refine splitB_f rfl ?_)
        exact ⟨by rw [bad (.inr hS)], rfl⟩
      | true =>
        rw [hS] at hfS
        have q := last (.inl rfl) hS
        (conv at q => whnf)
        (conv => whnf)
        repeat' ((conv => whnf); first | refine CallVC.pureF hfS rfl ?_ | refine splitB_t rfl ?_ | refine splitB_f rfl ?_)
        (conv => whnf)
        exact q
    · subst hk
      cases hS : fitsB S with
      | false =>
        rw [hS] at hfS
        repeat' ((conv => whnf); first | refine CallVC.pureF hfS rfl ?_ | refine splitB_t rfl ?_ | refine splitB_f rfl ?_)
        exact ⟨by rw [bad (.inr hS)], rfl⟩
      | true =>
        rw [hS] at hfS
        have q := last (.inr rfl) hS
        (conv at q => whnf)
        repeat' ((conv => whnf); first | refine CallVC.pureF hfS rfl ?_ | refine splitB_t rfl ?_ | refine splitB_f rfl ?_)
        (conv => whnf)
        exact q
    · have e := bad (.inl ⟨n1, n2⟩)
      rw [e]
      repeat' ((conv => whnf); first | refine splitB_t (bne_iff_ne.2 n1) ?_ | refine splitB_t (bne_iff_ne.2 n2) ?_ | refine splitB_t rfl ?_ | refine splitB_f rfl ?_)
      all_goals (try (conv => whnf))
      all_goals exact ⟨rfl, rfl⟩

end Go.Proofs.Ythmlninecfjjgaa.AD
