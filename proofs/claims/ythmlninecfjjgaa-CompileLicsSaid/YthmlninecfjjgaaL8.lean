/- Chapter 22: may a program be written: the program's answer. -/
import Derived.Test.YthmlninecfjjgaaL7
namespace Go.Proofs.Ythmlninecfjjgaa.AD
open Go.Proofs
set_option linter.unusedVariables false
set_option linter.unusedSimpArgs false
set_option maxRecDepth 100000

theorem put_at (n : Int) (h0 : 0 ≤ n) (h1 : n ≤ 2147483647) (g len : Nat) (ys : List PV) (hl : len = ys.length) (hy : ys.length ≤ 35184372088832) :
    MethV Try.prog 96 [.view (.b 0) g 1 len, .p (.int .i64 n)] [.buf g 1 ys] (.view (.b 0) (g + (numP 5 n).length) 1 (len + (numP 5 n).length)) [.buf (g + (numP 5 n).length) 1 (ys ++ numP 5 n)] := by
  subst hl
  exact put_code_spec n h0 h1 g ys hy

def pgCells (κ : Int) (T : List ByteArray) (C : List Ins) (S : Int) : Ob := .cells [.p (.int .u8 κ), .p (.list 1 (tP T)), .p (.list 3 (cP C)), .p (.int .i64 S)]

theorem write_in (κ : Int) (T : List ByteArray) (C : List Ins) (S : Int) (hTl : T.length ≤ 8192) (hCl : C.length ≤ 32768) (hS : 0 ≤ S ∧ S ≤ 2147483647) (hok : C.all insOk = true) (K : AV → List Ob → List Ob → Prop)
    (h : ∀ (m g : Nat) (ys : List PV) (lo' : List Ob), lo'[m]? = some (.buf g 1 ys) → (1048576 < (ys.length : Int) ↔ 1048576 < hdSz T C S + codeSz C + txtSz T) → (ys.length : Int) ≤ 9000000000 → K (.view (.l m) g 1 ys.length) [] lo') :
    CallVC Try.prog 66 [.p (encPg κ T C S)] [] [pgCells κ T C S, pgCells κ T C S] K := by
  have hT := tP_len T
  have hC := cP_len C
  have hdef : hdSz T C S = 3 + szN 5 S + szN 5 T.length + szN 5 C.length := rfl
  have l1 := numP_len 5 S
  have l2 := numP_len 5 T.length
  have l3 := numP_len 5 C.length
  have r1 := szN_range 5 S
  have r2 := szN_range 5 T.length
  have r3 := szN_range 5 C.length
  refine CallVC.inline f66_ok ?_
  (conv => whnf)
  refine CallVC.methV' [3, 0, 1, 2] 4 [pgCells κ T C S, pgCells κ T C S, pgCells κ T C S, .buf (0 + (numP 5 S).length) 1 ([.int .u8 86, .int .u8 80, .int .u8 κ] ++ numP 5 S)] (.view (.l 3) (0 + (numP 5 S).length) 1 (3 + (numP 5 S).length))
    (put_at S hS.1 hS.2 0 3 [.int .u8 86, .int .u8 80, .int .u8 κ] rfl (by simp)) rfl rfl rfl rfl rfl rfl (by decide) (by decide) rfl ?_
  (conv => whnf)
  rw [hT]
  generalize hy1 : ([.int .u8 86, .int .u8 80, .int .u8 κ] : List PV) ++ numP 5 S = y1
  generalize hg1 : 0 + (numP 5 S).length = g1
  generalize hn1 : 3 + (numP 5 S).length = n1
  have e1 : n1 = y1.length := by rw [← hn1, ← hy1]; simp; omega
  have b1 : n1 ≤ 10 := by omega
  refine CallVC.methV' [3, 0, 1, 2] 4 [pgCells κ T C S, pgCells κ T C S, pgCells κ T C S, .buf (g1 + (numP 5 T.length).length) 1 (y1 ++ numP 5 T.length)] (.view (.l 3) (g1 + (numP 5 T.length).length) 1 (n1 + (numP 5 T.length).length))
    (put_at T.length (by omega) (by omega) g1 n1 y1 e1 (by omega)) rfl rfl rfl rfl rfl rfl (by decide) (by decide) rfl ?_
  (conv => whnf)
  generalize hy2 : y1 ++ numP 5 T.length = y2
  generalize hg2 : g1 + (numP 5 T.length).length = g2
  generalize hn2 : n1 + (numP 5 T.length).length = n2
  have e2 : n2 = y2.length := by rw [← hn2, ← hy2, e1]; simp
  have t2 : (n2 : Int) + szN 5 C.length = hdSz T C S := by omega
  have codes : ∀ (g n : Nat) (ys : List PV), n = ys.length → (n : Int) + szN 5 C.length = hdSz T C S + txtSz T → n ≤ 2000000 → W Try.prog f66.c48 [(1, .ref (.l 2) 0), (3, .view (.l 3) g 1 n)] [] [pgCells κ T C S, pgCells κ T C S, pgCells κ T C S, .buf g 1 ys] (endI f66 K) := by
    intro g n ys hn ht hb
    (conv => whnf)
    rw [hC]
    refine CallVC.methV' [3, 0, 1, 2] 4 [pgCells κ T C S, pgCells κ T C S, pgCells κ T C S, .buf (g + (numP 5 C.length).length) 1 (ys ++ numP 5 C.length)] (.view (.l 3) (g + (numP 5 C.length).length) 1 (n + (numP 5 C.length).length))
      (put_at C.length (by omega) (by omega) g n ys hn (by omega)) rfl rfl rfl rfl rfl rfl (by decide) (by decide) rfl ?_
    (conv => whnf)
    generalize hy2 : ys ++ numP 5 C.length = zs
    generalize hg2 : g + (numP 5 C.length).length = gz
    generalize hn2 : n + (numP 5 C.length).length = nz
    have ez : nz = zs.length := by rw [← hn2, ← hy2, hn]; simp
    have tz : (nz : Int) = hdSz T C S + txtSz T := by omega
    have bz : nz ≤ 2000010 := by omega
    intro R hR
    have key : ∀ (rest : List Ins) (i g n : Nat) (ys : List PV), C.drop i = rest → i ≤ C.length → n = ys.length → (n : Int) + codeSz rest = hdSz T C S + codeSz C + txtSz T → n ≤ 2000010 + 13 * i → R [(3, .view (.l 3) g 1 n), (47, .p (.list 3 (cP C))), (48, .p (.int .i64 (cP C).length)), (49, .p (.int .i64 i))] [] [pgCells κ T C S, pgCells κ T C S, pgCells κ T C S, .buf g 1 ys] := by
      intro rest
      induction rest with
      | nil =>
        intro i g n ys hd hil hn ht hb
        have hl := drop_nil hd
        simp only [codeSz] at ht
        refine hR _ _ _ ?_
        (conv => whnf)
        refine splitB_f (decide_eq_false (by omega)) ?_
        (conv => whnf)
        have q := h 3 g ys [pgCells κ T C S, pgCells κ T C S, pgCells κ T C S, .buf g 1 ys] rfl (by omega) (by omega)
        rw [← hn] at q
        exact q
      | cons x r ihr =>
        intro i g n ys hd hil hn ht hb
        obtain ⟨hg, hd', hi⟩ := drop_cons hd
        have hx : insOk x = true := by
          rw [List.all_eq_true] at hok
          exact hok x (List.mem_of_getElem? hg)
        obtain ⟨⟨a1, a2⟩, b1', b2'⟩ := insOk_fits hx
        have ho := of_spec x.op
        have hA : (IntKind.u8.wrap (BitVec.ofInt IntKind.u8.bits (shp x.op) &&& BitVec.ofInt IntKind.u8.bits 1).toNat != 0) = hasA x.op := shp_and1 x.op
        have hB : (IntKind.u8.wrap (BitVec.ofInt IntKind.u8.bits (shp x.op) &&& BitVec.ofInt IntKind.u8.bits 2).toNat != 0) = hasB x.op := shp_and2 x.op
        have hdx : insSz x = 1 + (if hasA x.op then szN 5 x.a else 0) + (if hasB x.op then szN 5 x.b else 0) := rfl
        have hra := szN_range 5 x.a
        have hrb := szN_range 5 x.b
        have la := numP_len 5 x.a
        have lb := numP_len 5 x.b
        simp only [codeSz] at ht
        refine hR _ _ _ ?_
        (conv => whnf)
        refine splitB_t (decide_eq_true (by omega)) ?_
        (conv => whnf)
        refine ⟨rfl, insP x, ⟨by omega, cP_get hg⟩, ?_⟩
        (conv => whnf)
        refine ⟨rfl, ?_⟩
        (conv => whnf)
        refine ⟨⟨rfl, rfl, rfl, by omega⟩, by simp [room]; omega, ys ++ [.int .u8 x.op], by rw [List.take_of_length_le (by omega)], ?_⟩
        (conv => whnf)
        refine CallVC.pureF ho rfl ?_
        (conv => whnf)
        rw [hA]
        generalize hasA x.op = va at hA hdx
        generalize hasB x.op = vb at hB hdx
        cases va <;> cases vb
        all_goals simp only [Bool.false_eq_true, if_false, if_true] at hdx
        · refine splitB_f rfl ?_
          (conv => whnf)
          refine CallVC.pureF ho rfl ?_
          (conv => whnf)
          rw [hB]
          refine splitB_f rfl ?_
          (conv => whnf)
          rw [IntWalk.i64_in (i + 1) (by omega)]
          exact ihr (i + 1) (g + 1) (n + 1) (ys ++ [.int .u8 x.op]) hd' (by omega) (by rw [hn]; simp <;> omega) (by push_cast; omega) (by push_cast; omega)
        · refine splitB_f rfl ?_
          (conv => whnf)
          refine CallVC.pureF ho rfl ?_
          (conv => whnf)
          rw [hB]
          refine splitB_t rfl ?_
          (conv => whnf)
          refine CallVC.methV' [3, 0, 1, 2, 4] 5 [pgCells κ T C S, pgCells κ T C S, pgCells κ T C S, .buf (g + 1 + (numP 5 x.b).length) 1 (ys ++ [.int .u8 x.op] ++ numP 5 x.b), .cells [.p (.int .u8 x.op), .p (.int .i64 x.a), .p (.int .i64 x.b)]] (.view (.l 3) (g + 1 + (numP 5 x.b).length) 1 (n + 1 + (numP 5 x.b).length))
            (put_at x.b b1' b2' (g + 1) (n + 1) (ys ++ [.int .u8 x.op]) (by rw [hn]; simp <;> omega) (by simp; omega)) rfl rfl rfl rfl rfl rfl (by decide) (by decide) rfl ?_
          (conv => whnf)
          rw [IntWalk.i64_in (i + 1) (by omega)]
          exact ihr (i + 1) (g + 1 + (numP 5 x.b).length) (n + 1 + (numP 5 x.b).length) (ys ++ [.int .u8 x.op] ++ numP 5 x.b) hd' (by omega) (by rw [hn]; simp <;> omega) (by push_cast; omega) (by push_cast; omega)
        · refine splitB_t rfl ?_
          (conv => whnf)
          refine CallVC.methV' [3, 0, 1, 2, 4] 5 [pgCells κ T C S, pgCells κ T C S, pgCells κ T C S, .buf (g + 1 + (numP 5 x.a).length) 1 (ys ++ [.int .u8 x.op] ++ numP 5 x.a), .cells [.p (.int .u8 x.op), .p (.int .i64 x.a), .p (.int .i64 x.b)]] (.view (.l 3) (g + 1 + (numP 5 x.a).length) 1 (n + 1 + (numP 5 x.a).length))
            (put_at x.a a1 a2 (g + 1) (n + 1) (ys ++ [.int .u8 x.op]) (by rw [hn]; simp <;> omega) (by simp; omega)) rfl rfl rfl rfl rfl rfl (by decide) (by decide) rfl ?_
          (conv => whnf)
          refine CallVC.pureF ho rfl ?_
          (conv => whnf)
          rw [hB]
          refine splitB_f rfl ?_
          (conv => whnf)
          rw [IntWalk.i64_in (i + 1) (by omega)]
          exact ihr (i + 1) (g + 1 + (numP 5 x.a).length) (n + 1 + (numP 5 x.a).length) (ys ++ [.int .u8 x.op] ++ numP 5 x.a) hd' (by omega) (by rw [hn]; simp <;> omega) (by push_cast; omega) (by push_cast; omega)
        · refine splitB_t rfl ?_
          (conv => whnf)
          refine CallVC.methV' [3, 0, 1, 2, 4] 5 [pgCells κ T C S, pgCells κ T C S, pgCells κ T C S, .buf (g + 1 + (numP 5 x.a).length) 1 (ys ++ [.int .u8 x.op] ++ numP 5 x.a), .cells [.p (.int .u8 x.op), .p (.int .i64 x.a), .p (.int .i64 x.b)]] (.view (.l 3) (g + 1 + (numP 5 x.a).length) 1 (n + 1 + (numP 5 x.a).length))
            (put_at x.a a1 a2 (g + 1) (n + 1) (ys ++ [.int .u8 x.op]) (by rw [hn]; simp <;> omega) (by simp; omega)) rfl rfl rfl rfl rfl rfl (by decide) (by decide) rfl ?_
          (conv => whnf)
          refine CallVC.pureF ho rfl ?_
          (conv => whnf)
          rw [hB]
          refine splitB_t rfl ?_
          (conv => whnf)
          refine CallVC.methV' [3, 0, 1, 2, 4] 5 [pgCells κ T C S, pgCells κ T C S, pgCells κ T C S, .buf (g + 1 + (numP 5 x.a).length + (numP 5 x.b).length) 1 (ys ++ [.int .u8 x.op] ++ numP 5 x.a ++ numP 5 x.b), .cells [.p (.int .u8 x.op), .p (.int .i64 x.a), .p (.int .i64 x.b)]] (.view (.l 3) (g + 1 + (numP 5 x.a).length + (numP 5 x.b).length) 1 (n + 1 + (numP 5 x.a).length + (numP 5 x.b).length))
            (put_at x.b b1' b2' (g + 1 + (numP 5 x.a).length) (n + 1 + (numP 5 x.a).length) (ys ++ [.int .u8 x.op] ++ numP 5 x.a) (by rw [hn]; simp <;> omega) (by simp; omega)) rfl rfl rfl rfl rfl rfl (by decide) (by decide) rfl ?_
          (conv => whnf)
          rw [IntWalk.i64_in (i + 1) (by omega)]
          exact ihr (i + 1) (g + 1 + (numP 5 x.a).length + (numP 5 x.b).length) (n + 1 + (numP 5 x.a).length + (numP 5 x.b).length) (ys ++ [.int .u8 x.op] ++ numP 5 x.a ++ numP 5 x.b) hd' (by omega) (by rw [hn]; simp <;> omega) (by push_cast; omega) (by push_cast; omega)
    exact key C 0 gz nz zs rfl (by omega) ez (by omega) (by omega)
  intro R hR
  have key : ∀ (rest : List ByteArray) (i g n : Nat) (ys : List PV), T.drop i = rest → n = ys.length → (n : Int) + szN 5 C.length + txtSz rest = hdSz T C S + txtSz T → n ≤ 1048600 → R [(1, .ref (.l 2) 0), (3, .view (.l 3) g 1 n), (21, .p (.list 1 (tP T))), (22, .p (.int .i64 (tP T).length)), (23, .p (.int .i64 i))] [] [pgCells κ T C S, pgCells κ T C S, pgCells κ T C S, .buf g 1 ys] := by
    intro rest
    induction rest with
    | nil =>
      intro i g n ys hd hn ht hb
      have hl := drop_nil hd
      simp only [txtSz] at ht
      refine hR _ _ _ ?_
      (conv => whnf)
      refine splitB_f (decide_eq_false (by omega)) ?_
      have q := codes g n ys hn (by omega) (by omega)
      (conv at q => whnf)
      (conv => whnf)
      exact q
    | cons t r ihr =>
      intro i g n ys hd hn ht hb
      obtain ⟨hg, hd', hi⟩ := drop_cons hd
      have hnn := txtSz_nonneg r
      have hrg := szN_range 5 t.size
      have lt := numP_len 5 t.size
      have hcc := codeSz_range C
      simp only [txtSz] at ht
      refine hR _ _ _ ?_
      (conv => whnf)
      refine splitB_t (decide_eq_true (by omega)) ?_
      (conv => whnf)
      refine ⟨rfl, .str t, ⟨by omega, tP_get hg⟩, ?_⟩
      (conv => whnf)
      refine ⟨rfl, ?_⟩
      (conv => whnf)
      rw [IntWalk.i64_in (1048576 - (n : Int)) (by omega)]
      refine splitB_dec (fun h1 => ?_) (fun h1 => ?_)
      · (conv => whnf)
        refine ⟨⟨by omega, by omega, by simp [room]⟩, List.replicate 1048577 (.int .u8 0), rfl, ?_⟩
        (conv => whnf)
        have hl : (List.replicate 1048577 (PV.int .u8 0)).length = 1048577 := List.length_replicate
        have q := h 4 0 (List.replicate 1048577 (.int .u8 0)) [pgCells κ T C S, pgCells κ T C S, pgCells κ T C S, .buf g 1 ys, .buf 0 1 (List.replicate 1048577 (.int .u8 0))] rfl (by rw [hl]; omega) (by rw [hl]; omega)
        rw [hl] at q
        exact q
      · (conv => whnf)
        refine CallVC.methV' [3, 0, 1, 2] 4 [pgCells κ T C S, pgCells κ T C S, pgCells κ T C S, .buf (g + (numP 5 t.size).length) 1 (ys ++ numP 5 t.size)] (.view (.l 3) (g + (numP 5 t.size).length) 1 (n + (numP 5 t.size).length))
          (put_at t.size (by omega) (by omega) g n ys hn (by omega)) rfl rfl rfl rfl rfl rfl (by decide) (by decide) rfl ?_
        (conv => whnf)
        have hbl : (byteInts t).length = t.size := by rw [byteInts, List.length_map, ba_size]
        refine ⟨⟨rfl, rfl, rfl, by simp; omega⟩, by simp [room, hbl]; omega, (ys ++ numP 5 t.size) ++ byteInts t, by rw [List.take_of_length_le (by simp; omega)], ?_⟩
        (conv => whnf)
        rw [hbl, IntWalk.i64_in (i + 1) (by omega)]
        exact ihr (i + 1) _ _ _ hd' (by rw [hn]; simp [hbl]; omega) (by push_cast; omega) (by omega)
  exact key T 0 g2 n2 y2 rfl e2 (by omega) (by omega)


theorem IndexFuncI_spec (xs : List Ins) (hx : (xs.length : Int) ≤ 9223372036854775807) (p : Ins → Bool) (f : Nat) (hf : enters Try.prog f = true) (hp : ∀ a, a ∈ xs → pureF Try.prog f [.p (insP a)] (.p (.bool (p a)))) :
    pureF Try.prog 95 [.p (.list 3 (cP xs)), .p (.fn (.func f))] (.p (.int .i64 (idxF p xs))) := by
  refine pureF_of f95_ok fun H => ?_
  (conv => whnf)
  intro R hR
  have he := cP_len xs
  have key : ∀ (rest : List Ins) (i : Nat), xs.drop i = rest → idxF p xs = (if idxF p rest = -1 then -1 else idxF p rest + i) → R [(0, .p (.list 3 (cP xs))), (1, .p (.fn (.func f))), (7, .p (.int .i64 (cP xs).length)), (8, .p (.int .i64 i))] H [] := by
    intro rest
    induction rest with
    | nil =>
      intro i hd hq
      have hl := drop_nil hd
      refine hR _ _ _ ?_
      (conv => whnf)
      refine splitB_f (decide_eq_false (by omega)) ?_
      exact ⟨by rw [hq]; rfl, rfl⟩
    | cons a r ih =>
      intro i hd hq
      obtain ⟨hg, hd', hi⟩ := drop_cons hd
      have hpa := hp a (List.mem_of_getElem? hg)
      refine hR _ _ _ ?_
      (conv => whnf)
      refine splitB_t (decide_eq_true (by omega)) ?_
      (conv => whnf)
      refine ⟨rfl, insP a, ⟨by omega, cP_get hg⟩, ?_⟩
      (conv => whnf)
      refine ⟨hf, ?_⟩
      refine CallVC.pureF hpa rfl ?_
      (conv => whnf)
      refine splitB_intro (fun h => ?_) (fun h => ?_)
      · exact ⟨by rw [hq]; simp [idxF, h], rfl⟩
      · (conv => whnf)
        rw [IntWalk.i64_in _ (by omega)]
        refine ih (i + 1) hd' ?_
        rw [hq]
        simp only [idxF, h, Bool.false_eq_true, if_false]
        have := idxF_ge p r
        by_cases h3 : idxF p r = -1
        · rw [if_pos h3, if_pos rfl, if_pos h3]
        · rw [if_neg h3, if_neg (by omega), if_neg h3]; push_cast; omega
  refine key xs 0 rfl ?_
  by_cases h3 : idxF p xs = -1
  · rw [if_pos h3]; exact h3
  · rw [if_neg h3]; simp
theorem ContainsFuncI_spec (xs : List Ins) (hx : (xs.length : Int) ≤ 9223372036854775807) (p : Ins → Bool) (f : Nat) (hf : enters Try.prog f = true) (hp : ∀ a, a ∈ xs → pureF Try.prog f [.p (insP a)] (.p (.bool (p a)))) :
    pureF Try.prog 64 [.p (.list 3 (cP xs)), .p (.fn (.func f))] (.p (.bool (xs.any p))) := by
  refine pureF_of f64_ok fun H => ?_
  (conv => whnf)
  refine CallVC.pureF (IndexFuncI_spec xs hx p f hf hp) rfl ?_
  exact ⟨by rw [← idxF_any], rfl⟩

/-- The program's answer is the document's. -/
theorem codeCheck_spec (κ : Int) (T : List ByteArray) (C : List Ins) (S : Int) (hTl : T.length ≤ 1000000000) (hCl : C.length ≤ 1000000000) : pureF Try.prog 47 [.p (encPg κ T C S)] (.p (.int .i64 (errP κ T C S))) := by
  refine pureF_nil_of (ps := [encPg κ T C S]) f47_ok (.int _ _) ?_
  have hT := tP_len T
  have hC := cP_len C
  have hrS := right_code_spec S true
  have hany : pureF Try.prog 64 [.p (.list 3 (cP C)), .p (.fn (.func 65))] (.p (.bool (!C.all insOk))) := by
    have h1 := ContainsFuncI_spec C (by omega) (fun x => !insOk x) 65 (by kernel_rfl) fun a _ => wrong_spec a
    have h2 : (C.any fun x => !insOk x) = !C.all insOk := by rw [List.not_all_eq_any_not]
    rw [h2] at h1
    exact h1
  have hrf : rightB S true = fitsB S := by
    rw [rightB, fitsB, Bool.eq_iff_iff]
    simp
    omega
  rw [hrf] at hrS
  (conv => whnf)
  refine CallVC.inline f45_ok ?_
  (conv => whnf)
  by_cases hlim : 32768 < C.length ∨ 8192 < T.length
  · have e : errP κ T C S = 3 := by rw [errP, if_pos hlim]
    rw [e]
    refine splitB_dec (fun h => ?_) (fun h => ?_)
    · (conv => whnf)
      refine splitB_t (decide_eq_true h) ?_
      exact ⟨rfl, rfl⟩
    · (conv => whnf)
      refine splitB_t (decide_eq_true (by omega)) ?_
      exact ⟨rfl, rfl⟩
  · refine splitB_f (decide_eq_false (by omega)) ?_
    (conv => whnf)
    refine splitB_f (decide_eq_false (by omega)) ?_
    have bad : ((κ ≠ 1 ∧ κ ≠ 2) ∨ fitsB S = false ∨ C.all insOk = false) → errP κ T C S = 210 := fun h => by rw [errP, if_neg hlim, if_pos h]
    rcases (show κ = 1 ∨ κ = 2 ∨ (κ ≠ 1 ∧ κ ≠ 2) by omega) with hk | hk | ⟨n1, n2⟩
    · subst hk
      cases hS : fitsB S with
      | false =>
        rw [hS] at hrS
        repeat' ((conv => whnf); first | refine CallVC.pureF hrS rfl ?_ | refine splitB_t rfl ?_ | refine splitB_f rfl ?_)
        exact ⟨by rw [bad (.inr (.inl hS))], rfl⟩
      | true =>
        rw [hS] at hrS
        have hS' : 0 ≤ S ∧ S ≤ 2147483647 := by simpa [fitsB] using hS
        cases hall : C.all insOk with
        | false =>
          rw [hall] at hany
          repeat' ((conv => whnf); first | refine CallVC.pureF hrS rfl ?_ | refine CallVC.pureF hany rfl ?_ | refine splitB_t rfl ?_ | refine splitB_f rfl ?_)
          exact ⟨by rw [bad (.inr (.inr hall))], rfl⟩
        | true =>
          have e1 : errP 1 T C S = if 1048576 < hdSz T C S + codeSz C + txtSz T then 3 else 0 := by
            rw [errP, if_neg hlim, if_neg (by rw [hS, hall]; simp)]
          rw [hall] at hany
          repeat' ((conv => whnf); first | refine CallVC.pureF hrS rfl ?_ | refine CallVC.pureF hany rfl ?_ | refine splitB_t rfl ?_ | refine splitB_f rfl ?_)
          (conv => whnf)
          refine write_in 1 T C S (by omega) (by omega) hS' hall _ fun m g ys lo' hm hiff hle => ?_
          (conv => whnf)
          refine ⟨atK_in _ _ _ _ hm rfl, ?_⟩
          (conv => whnf)
          refine splitB_dec (fun h => ?_) (fun h => ?_)
          · exact ⟨by rw [e1, if_pos (hiff.1 h)], rfl⟩
          · exact ⟨by rw [e1, if_neg fun h2 => h (hiff.2 h2)], rfl⟩
    · subst hk
      cases hS : fitsB S with
      | false =>
        rw [hS] at hrS
        repeat' ((conv => whnf); first | refine CallVC.pureF hrS rfl ?_ | refine splitB_t rfl ?_ | refine splitB_f rfl ?_)
        exact ⟨by rw [bad (.inr (.inl hS))], rfl⟩
      | true =>
        rw [hS] at hrS
        have hS' : 0 ≤ S ∧ S ≤ 2147483647 := by simpa [fitsB] using hS
        cases hall : C.all insOk with
        | false =>
          rw [hall] at hany
          repeat' ((conv => whnf); first | refine CallVC.pureF hrS rfl ?_ | refine CallVC.pureF hany rfl ?_ | refine splitB_t rfl ?_ | refine splitB_f rfl ?_)
          exact ⟨by rw [bad (.inr (.inr hall))], rfl⟩
        | true =>
          have e1 : errP 2 T C S = if 1048576 < hdSz T C S + codeSz C + txtSz T then 3 else 0 := by
            rw [errP, if_neg hlim, if_neg (by rw [hS, hall]; simp)]
          rw [hall] at hany
          repeat' ((conv => whnf); first | refine CallVC.pureF hrS rfl ?_ | refine CallVC.pureF hany rfl ?_ | refine splitB_t rfl ?_ | refine splitB_f rfl ?_)
          (conv => whnf)
          refine write_in 2 T C S (by omega) (by omega) hS' hall _ fun m g ys lo' hm hiff hle => ?_
          (conv => whnf)
          refine ⟨atK_in _ _ _ _ hm rfl, ?_⟩
          (conv => whnf)
          refine splitB_dec (fun h => ?_) (fun h => ?_)
          · exact ⟨by rw [e1, if_pos (hiff.1 h)], rfl⟩
          · exact ⟨by rw [e1, if_neg fun h2 => h (hiff.2 h2)], rfl⟩
    · have e := bad (.inl ⟨n1, n2⟩)
      rw [e]
      repeat' ((conv => whnf); first | refine splitB_t (bne_iff_ne.2 n1) ?_ | refine splitB_t (bne_iff_ne.2 n2) ?_ | refine splitB_t rfl ?_ | refine splitB_f rfl ?_)
      all_goals (try (conv => whnf))
      all_goals exact ⟨rfl, rfl⟩

end Go.Proofs.Ythmlninecfjjgaa.AD
