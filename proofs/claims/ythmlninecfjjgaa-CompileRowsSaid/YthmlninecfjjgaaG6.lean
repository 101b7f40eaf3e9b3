/- Chapter 22: may a program be written: the program's answer. -/
import Derived.Test.YthmlninecfjjgaaG5
import Derived.Test.YthmlninecfjjgaaG3
namespace Go.Proofs.Ythmlninecfjjgaa.AD
open Go.Proofs
set_option linter.unusedVariables false
set_option linter.unusedSimpArgs false
set_option maxRecDepth 100000

theorem put_at (n : Int) (h0 : 0 ≤ n) (h1 : n ≤ 2147483647) (g len : Nat) (ys : List PV) (hl : len = ys.length) (hy : ys.length ≤ 35184372088832) :
    MethV Try.prog 96 [.view (.b 0) g 1 len, .p (.int .i64 n)] [.buf g 1 ys] (.view (.b 0) (g + (numP 5 n).length) 1 (len + (numP 5 n).length)) [.buf (g + (numP 5 n).length) 1 (ys ++ numP 5 n)] := by
  subst hl
  exact put_code_spec n h0 h1 g ys hy

def pgCells (κ : Int) (T : List ByteArray) (C : List Ins) (S : Int) : Ob := .cells [.p (.int .u8 κ), .p (.list 1 (tP T)), .p (.list 3 (cP C)), .p (.int .i64 S)]

theorem write_in (κ : Int) (T : List ByteArray) (C : List Ins) (S : Int) (hTl : T.length ≤ 8192) (hCl : C.length ≤ 32768) (hS : 0 ≤ S ∧ S ≤ 2147483647) (hok : C.all insOk = true) (K : AV → List Ob → List Ob → Prop)
    (h : ∀ (m g : Nat) (ys : List PV) (lo' : List Ob), lo'[m]? = some (.buf g 1 ys) → (1048576 < (ys.length : Int) ↔ 1048576 < hdSz T C S + codeSz C + txtSz T) → (ys.length : Int) ≤ 9000000000 → K (.view (.l m) g 1 ys.length) [] lo') :
    CallVC Try.prog 66 [.p (encPg κ T C S)] [] [pgCells κ T C S, pgCells κ T C S] K := by
  have hT := tP_len T
  have hC := cP_len C
  have hdef : hdSz T C S = 3 + szN 5 S + szN 5 T.length + szN 5 C.length := rfl
  have l1 := numP_len 5 S
  have l2 := numP_len 5 T.length
  have l3 := numP_len 5 C.length
  have r1 := szN_range 5 S
  have r2 := szN_range 5 T.length
  have r3 := szN_range 5 C.length
  refine CallVC.inline f66_ok ?_
  (conv => whnf)
  refine CallVC.methV' [3, 0, 1, 2] 4 [pgCells κ T C S, pgCells κ T C S, pgCells κ T C S, .buf (0 + (numP 5 S).length) 1 ([.int .u8 86, .int .u8 80, .int .u8 κ] ++ numP 5 S)] (.view (.l 3) (0 + (numP 5 S).length) 1 (3 + (numP 5 S).length))
    (put_at S hS.1 hS.2 0 3 [.int .u8 86, .int .u8 80, .int .u8 κ] rfl (by simp)) rfl rfl rfl rfl rfl rfl (by decide) (by decide) rfl ?_
  (conv => whnf)
  rw [hT]
  generalize hy1 : ([.int .u8 86, .int .u8 80, .int .u8 κ] : List PV) ++ numP 5 S = y1
  generalize hg1 : 0 + (numP 5 S).length = g1
  generalize hn1 : 3 + (numP 5 S).length = n1
  have e1 : n1 = y1.length := by rw [← hn1, ← hy1]; simp; omega
  have b1 : n1 ≤ 10 := by omega
  refine CallVC.methV' [3, 0, 1, 2] 4 [pgCells κ T C S, pgCells κ T C S, pgCells κ T C S, .buf (g1 + (numP 5 T.length).length) 1 (y1 ++ numP 5 T.length)] (.view (.l 3) (g1 + (numP 5 T.length).length) 1 (n1 + (numP 5 T.length).length))
    (put_at T.length (by omega) (by omega) g1 n1 y1 e1 (by omega)) rfl rfl rfl rfl rfl rfl (by decide) (by decide) rfl ?_
  (conv => whnf)
  generalize hy2 : y1 ++ numP 5 T.length = y2
  generalize hg2 : g1 + (numP 5 T.length).length = g2
  generalize hn2 : n1 + (numP 5 T.length).length = n2
  have e2 : n2 = y2.length := by rw [← hn2, ← hy2, e1]; simp
  have t2 : (n2 : Int) + szN 5 C.length = hdSz T C S := by omega
  have codes : ∀ (g n : Nat) (ys : List PV), n = ys.length → (n : Int) + szN 5 C.length = hdSz T C S + txtSz T → n ≤ 2000000 → W Try.prog f66.c48 [(1, .ref (.l 2) 0), (3, .view (.l 3) g 1 n)] [] [pgCells κ T C S, pgCells κ T C S, pgCells κ T C S, .buf g 1 ys] (endI f66 K) := by
    intro g n ys hn ht hb
    (conv => whnf)
    rw [hC]
    refine CallVC.methV' [3, 0, 1, 2] 4 [pgCells κ T C S, pgCells κ T C S, pgCells κ T C S, .buf (g + (numP 5 C.length).length) 1 (ys ++ numP 5 C.length)] (.view (.l 3) (g + (numP 5 C.length).length) 1 (n + (numP 5 C.length).length))
      (put_at C.length (by omega) (by omega) g n ys hn (by omega)) rfl rfl rfl rfl rfl rfl (by decide) (by decide) rfl ?_
    (conv => whnf)
    generalize hy2 : ys ++ numP 5 C.length = zs
    generalize hg2 : g + (numP 5 C.length).length = gz
    generalize hn2 : n + (numP 5 C.length).length = nz
    have ez : nz = zs.length := by rw [← hn2, ← hy2, hn]; simp
    have tz : (nz : Int) = hdSz T C S + txtSz T := by omega
    have bz : nz ≤ 2000010 := by omega
    intro R hR
    have key : ∀ (rest : List Ins) (i g n : Nat) (ys : List PV), C.drop i = rest → i ≤ C.length → n = ys.length → (n : Int) + codeSz rest = hdSz T C S + codeSz C + txtSz T → n ≤ 2000010 + 13 * i → R [(3, .view (.l 3) g 1 n), (47, .p (.list 3 (cP C))), (48, .p (.int .i64 (cP C).length)), (49, .p (.int .i64 i))] [] [pgCells κ T C S, pgCells κ T C S, pgCells κ T C S, .buf g 1 ys] := by
      intro rest
      induction rest with
      | nil =>
        intro i g n ys hd hil hn ht hb
        have hl := drop_nil hd
        simp only [codeSz] at ht
        refine hR _ _ _ ?_
        (conv => whnf)
        refine splitB_f (decide_eq_false (by omega)) ?_
        (conv => whnf)
        have q := h 3 g ys [pgCells κ T C S, pgCells κ T C S, pgCells κ T C S, .buf g 1 ys] rfl (by omega) (by omega)
        rw [← hn] at q
        exact q
      | cons x r ihr =>
        intro i g n ys hd hil hn ht hb
        obtain ⟨hg, hd', hi⟩ := drop_cons hd
        have hx : insOk x = true := by
          rw [List.all_eq_true] at hok
          exact hok x (List.mem_of_getElem? hg)
        obtain ⟨⟨a1, a2⟩, b1', b2'⟩ := insOk_fits hx
        have ho := codeOf_spec x.op
        have hA : (IntKind.u8.wrap (BitVec.ofInt IntKind.u8.bits (shp x.op) &&& BitVec.ofInt IntKind.u8.bits 1).toNat != 0) = hasA x.op := shp_and1 x.op
        have hB : (IntKind.u8.wrap (BitVec.ofInt IntKind.u8.bits (shp x.op) &&& BitVec.ofInt IntKind.u8.bits 2).toNat != 0) = hasB x.op := shp_and2 x.op
        have hdx : insSz x = 1 + (if hasA x.op then szN 5 x.a else 0) + (if hasB x.op then szN 5 x.b else 0) := rfl
        have hra := szN_range 5 x.a
        have hrb := szN_range 5 x.b
        have la := numP_len 5 x.a
        have lb := numP_len 5 x.b
        simp only [codeSz] at ht
        refine hR _ _ _ ?_
        (conv => whnf)
        refine splitB_t (decide_eq_true (by omega)) ?_
        (conv => whnf)
        refine ⟨rfl, insP x, ⟨by omega, cP_get hg⟩, ?_⟩
        (conv => whnf)
        refine ⟨rfl, ?_⟩
        (conv => whnf)
        refine ⟨⟨rfl, rfl, rfl, by omega⟩, by simp [room]; omega, ys ++ [.int .u8 x.op], by rw [List.take_of_length_le (by omega)], ?_⟩
        (conv => whnf)
        refine CallVC.pureF ho rfl ?_
        (conv => whnf)
        rw [hA]
        generalize hasA x.op = va at hA hdx
        generalize hasB x.op = vb at hB hdx
        cases va <;> cases vb
        all_goals simp only [Bool.false_eq_true, if_false, if_true] at hdx
        · refine splitB_f rfl ?_
          (conv => whnf)
          refine CallVC.pureF ho rfl ?_
          (conv => whnf)
          rw [hB]
          refine splitB_f rfl ?_
          (conv => whnf)
          rw [IntWalk.i64_in (i + 1) (by omega)]
          exact ihr (i + 1) (g + 1) (n + 1) (ys ++ [.int .u8 x.op]) hd' (by omega) (by rw [hn]; simp <;> omega) (by push_cast; omega) (by push_cast; omega)
        · refine splitB_f rfl ?_
          (conv => whnf)
          refine CallVC.pureF ho rfl ?_
          (conv => whnf)
          rw [hB]
          refine splitB_t rfl ?_
          (conv => whnf)
          refine CallVC.methV' [3, 0, 1, 2, 4] 5 [pgCells κ T C S, pgCells κ T C S, pgCells κ T C S, .buf (g + 1 + (numP 5 x.b).length) 1 (ys ++ [.int .u8 x.op] ++ numP 5 x.b), .cells [.p (.int .u8 x.op), .p (.int .i64 x.a), .p (.int .i64 x.b)]] (.view (.l 3) (g + 1 + (numP 5 x.b).length) 1 (n + 1 + (numP 5 x.b).length))
            (put_at x.b b1' b2' (g + 1) (n + 1) (ys ++ [.int .u8 x.op]) (by rw [hn]; simp <;> omega) (by simp; omega)) rfl rfl rfl rfl rfl rfl (by decide) (by decide) rfl ?_
          (conv => whnf)
          rw [IntWalk.i64_in (i + 1) (by omega)]
          exact ihr (i + 1) (g + 1 + (numP 5 x.b).length) (n + 1 + (numP 5 x.b).length) (ys ++ [.int .u8 x.op] ++ numP 5 x.b) hd' (by omega) (by rw [hn]; simp <;> omega) (by push_cast; omega) (by push_cast; omega)
        · refine splitB_t rfl ?_
          (conv => whnf)
          refine CallVC.methV' [3, 0, 1, 2, 4] 5 [pgCells κ T C S, pgCells κ T C S, pgCells κ T C S, .buf (g + 1 + (numP 5 x.a).length) 1 (ys ++ [.int .u8 x.op] ++ numP 5 x.a), .cells [.p (.int .u8 x.op), .p (.int .i64 x.a), .p (.int .i64 x.b)]] (.view (.l 3) (g + 1 + (numP 5 x.a).length) 1 (n + 1 + (numP 5 x.a).length))
            (put_at x.a a1 a2 (g + 1) (n + 1) (ys ++ [.int .u8 x.op]) (by rw [hn]; simp <;> omega) (by simp; omega)) rfl rfl rfl rfl rfl rfl (by decide) (by decide) rfl ?_
          (conv => whnf)
          refine CallVC.pureF ho rfl ?_
          (conv => whnf)
          rw [hB]
          refine splitB_f rfl ?_
          (conv => whnf)
          rw [IntWalk.i64_in (i + 1) (by omega)]
          exact ihr (i + 1) (g + 1 + (numP 5 x.a).length) (n + 1 + (numP 5 x.a).length) (ys ++ [.int .u8 x.op] ++ numP 5 x.a) hd' (by omega) (by rw [hn]; simp <;> omega) (by push_cast; omega) (by push_cast; omega)
        · refine splitB_t rfl ?_
          (conv => whnf)
          refine CallVC.methV' [3, 0, 1, 2, 4] 5 [pgCells κ T C S, pgCells κ T C S, pgCells κ T C S, .buf (g + 1 + (numP 5 x.a).length) 1 (ys ++ [.int .u8 x.op] ++ numP 5 x.a), .cells [.p (.int .u8 x.op), .p (.int .i64 x.a), .p (.int .i64 x.b)]] (.view (.l 3) (g + 1 + (numP 5 x.a).length) 1 (n + 1 + (numP 5 x.a).length))
            (put_at x.a a1 a2 (g + 1) (n + 1) (ys ++ [.int .u8 x.op]) (by rw [hn]; simp <;> omega) (by simp; omega)) rfl rfl rfl rfl rfl rfl (by decide) (by decide) rfl ?_
          (conv => whnf)
          refine CallVC.pureF ho rfl ?_
          (conv => whnf)
          rw [hB]
          refine splitB_t rfl ?_
          (conv => whnf)
          refine CallVC.methV' [3, 0, 1, 2, 4] 5 [pgCells κ T C S, pgCells κ T C S, pgCells κ T C S, .buf (g + 1 + (numP 5 x.a).length + (numP 5 x.b).length) 1 (ys ++ [.int .u8 x.op] ++ numP 5 x.a ++ numP 5 x.b), .cells [.p (.int .u8 x.op), .p (.int .i64 x.a), .p (.int .i64 x.b)]] (.view (.l 3) (g + 1 + (numP 5 x.a).length + (numP 5 x.b).length) 1 (n + 1 + (numP 5 x.a).length + (numP 5 x.b).length))
            (put_at x.b b1' b2' (g + 1 + (numP 5 x.a).length) (n + 1 + (numP 5 x.a).length) (ys ++ [.int .u8 x.op] ++ numP 5 x.a) (by rw [hn]; simp <;> omega) (by simp; omega)) rfl rfl rfl rfl rfl rfl (by decide) (by decide) rfl ?_
          (conv => whnf)
          rw [IntWalk.i64_in (i + 1) (by omega)]
          exact ihr (i + 1) (g + 1 + (numP 5 x.a).length + (numP 5 x.b).length) (n + 1 + (numP 5 x.a).length + (numP 5 x.b).length) (ys ++ [.int .u8 x.op] ++ numP 5 x.a ++ numP 5 x.b) hd' (by omega) (by rw [hn]; simp <;> omega) (by push_cast; omega) (by push_cast; omega)
    exact key C 0 gz nz zs rfl (by omega) ez (by omega) (by omega)
  intro R hR
  have key : ∀ (rest : List ByteArray) (i g n : Nat) (ys : List PV), T.drop i = rest → n = ys.length → (n : Int) + szN 5 C.length + txtSz rest = hdSz T C S + txtSz T → n ≤ 1048600 → R [(1, .ref (.l 2) 0), (3, .view (.l 3) g 1 n), (21, .p (.list 1 (tP T))), (22, .p (.int .i64 (tP T).length)), (23, .p (.int .i64 i))] [] [pgCells κ T C S, pgCells κ T C S, pgCells κ T C S, .buf g 1 ys] := by
    intro rest
    induction rest with
    | nil =>
      intro i g n ys hd hn ht hb
      have hl := drop_nil hd
      simp only [txtSz] at ht
      refine hR _ _ _ ?_
      (conv => whnf)
      refine splitB_f (decide_eq_false (by omega)) ?_
      have q := codes g n ys hn (by omega) (by omega)
      (conv at q => whnf)
      (conv => whnf)
      exact q
    | cons t r ihr =>
      intro i g n ys hd hn ht hb
      obtain ⟨hg, hd', hi⟩ := drop_cons hd
      have hnn := txtSz_nonneg r
      have hrg := szN_range 5 t.size
      have lt := numP_len 5 t.size
      have hcc := codeSz_range C
      simp only [txtSz] at ht
      refine hR _ _ _ ?_
      (conv => whnf)
      refine splitB_t (decide_eq_true (by omega)) ?_
      (conv => whnf)
      refine ⟨rfl, .str t, ⟨by omega, tP_get hg⟩, ?_⟩
      (conv => whnf)
      refine ⟨rfl, ?_⟩
      (conv => whnf)
      rw [IntWalk.i64_in (1048576 - (n : Int)) (by omega)]
      refine splitB_dec (fun h1 => ?_) (fun h1 => ?_)
      · (conv => whnf)
        refine ⟨⟨by omega, by omega, by simp [room]⟩, List.replicate 1048577 (.int .u8 0), rfl, ?_⟩
        (conv => whnf)
        have hl : (List.replicate 1048577 (PV.int .u8 0)).length = 1048577 := List.length_replicate
        have q := h 4 0 (List.replicate 1048577 (.int .u8 0)) [pgCells κ T C S, pgCells κ T C S, pgCells κ T C S, .buf g 1 ys, .buf 0 1 (List.replicate 1048577 (.int .u8 0))] rfl (by rw [hl]; omega) (by rw [hl]; omega)
        rw [hl] at q
        exact q
      · (conv => whnf)
        refine CallVC.methV' [3, 0, 1, 2] 4 [pgCells κ T C S, pgCells κ T C S, pgCells κ T C S, .buf (g + (numP 5 t.size).length) 1 (ys ++ numP 5 t.size)] (.view (.l 3) (g + (numP 5 t.size).length) 1 (n + (numP 5 t.size).length))
          (put_at t.size (by omega) (by omega) g n ys hn (by omega)) rfl rfl rfl rfl rfl rfl (by decide) (by decide) rfl ?_
        (conv => whnf)
        have hbl : (byteInts t).length = t.size := by rw [byteInts, List.length_map, ba_size]
        refine ⟨⟨rfl, rfl, rfl, by simp; omega⟩, by simp [room, hbl]; omega, (ys ++ numP 5 t.size) ++ byteInts t, by rw [List.take_of_length_le (by simp; omega)], ?_⟩
        (conv => whnf)
        rw [hbl, IntWalk.i64_in (i + 1) (by omega)]
        exact ihr (i + 1) _ _ _ hd' (by rw [hn]; simp [hbl]; omega) (by push_cast; omega) (by omega)
  exact key T 0 g2 n2 y2 rfl e2 (by omega) (by omega)


theorem IndexFuncI_spec (xs : List Ins) (hx : (xs.length : Int) ≤ 9223372036854775807) (p : Ins → Bool) (f : Nat) (hf : enters Try.prog f = true) (hp : ∀ a, a ∈ xs → pureF Try.prog f [.p (insP a)] (.p (.bool (p a)))) :
    pureF Try.prog 95 [.p (.list 3 (cP xs)), .p (.fn (.func f))] (.p (.int .i64 (idxF p xs))) := by
  refine pureF_of f95_ok fun H => ?_
  (conv => whnf)
  intro R hR
  have he := cP_len xs
  have key : ∀ (rest : List Ins) (i : Nat), xs.drop i = rest → idxF p xs = (if idxF p rest = -1 then -1 else idxF p rest + i) → R [(0, .p (.list 3 (cP xs))), (1, .p (.fn (.func f))), (7, .p (.int .i64 (cP xs).length)), (8, .p (.int .i64 i))] H [] := by
    intro rest
    induction rest with
    | nil =>
      intro i hd hq
      have hl := drop_nil hd
      refine hR _ _ _ ?_
      (conv => whnf)
      refine splitB_f (decide_eq_false (by omega)) ?_
      exact ⟨by rw [hq]; rfl, rfl⟩
    | cons a r ih =>
      intro i hd hq
      obtain ⟨hg, hd', hi⟩ := drop_cons hd
      have hpa := hp a (List.mem_of_getElem? hg)
      refine hR _ _ _ ?_
      (conv => whnf)
      refine splitB_t (decide_eq_true (by omega)) ?_
      (conv => whnf)
      refine ⟨rfl, insP a, ⟨by omega, cP_get hg⟩, ?_⟩
      (conv => whnf)
      refine ⟨hf, ?_⟩
      refine CallVC.pureF hpa rfl ?_
      (conv => whnf)
      refine splitB_intro (fun h => ?_) (fun h => ?_)
      · exact ⟨by rw [hq]; simp [idxF, h], rfl⟩
      · (conv => whnf)
        rw [IntWalk.i64_in _ (by omega)]
        refine ih (i + 1) hd' ?_
        rw [hq]
        simp only [idxF, h, Bool.false_eq_true, if_false]
        have := idxF_ge p r
        by_cases h3 : idxF p r = -1
        · rw [if_pos h3, if_pos rfl, if_pos h3]
        · rw [if_neg h3, if_neg (by omega), if_neg h3]; push_cast; omega
  refine key xs 0 rfl ?_
  by_cases h3 : idxF p xs = -1
  · rw [if_pos h3]; exact h3
  · rw [if_neg h3]; simp
theorem ContainsFuncI_spec (xs : List Ins) (hx : (xs.length : Int) ≤ 9223372036854775807) (p : Ins → Bool) (f : Nat) (hf : enters Try.prog f = true) (hp : ∀ a, a ∈ xs → pureF Try.prog f [.p (insP a)] (.p (.bool (p a)))) :
    pureF Try.prog 64 [.p (.list 3 (cP xs)), .p (.fn (.func f))] (.p (.bool (xs.any p))) := by
  refine pureF_of f64_ok fun H => ?_
  (conv => whnf)
  refine CallVC.pureF (IndexFuncI_spec xs hx p f hf hp) rfl ?_
  exact ⟨by rw [← idxF_any], rfl⟩

/-- The program's answer is the document's. -/
theorem codeCheck_spec (κ : Int) (T : List ByteArray) (C : List Ins) (S : Int) (hTl : T.length ≤ 1000000000) (hCl : C.length ≤ 1000000000) : pureF Try.prog 47 [.p (encPg κ T C S)] (.p (.int .i64 (errP κ T C S))) := by
  refine pureF_nil_of (ps := [encPg κ T C S]) f47_ok (.int _ _) ?_
  have hT := tP_len T
  have hC := cP_len C
  have hrS := right_code_spec S true
  have hany : pureF Try.prog 64 [.p (.list 3 (cP C)), .p (.fn (.func 65))] (.p (.bool (!C.all insOk))) := by
    have h1 := ContainsFuncI_spec C (by omega) (fun x => !insOk x) 65 (by kernel_rfl) fun a _ => codeWrong_spec a
    have h2 : (C.any fun x => !insOk x) = !C.all insOk := by rw [List.not_all_eq_any_not]
    rw [h2] at h1
    exact h1
  have hrf : rightB S true = fitsB S := by
    rw [rightB, fitsB, Bool.eq_iff_iff]
    simp
    omega
  rw [hrf] at hrS
  (conv => whnf)
  refine CallVC.inline f45_ok ?_
  (conv => whnf)
  by_cases hlim : 32768 < C.length ∨ 8192 < T.length
  · have e : errP κ T C S = 3 := by rw [errP, if_pos hlim]
    rw [e]
    refine splitB_dec (fun h => ?_) (fun h => ?_)
    · (conv => whnf)
      refine splitB_t (decide_eq_true h) ?_
      exact ⟨rfl, rfl⟩
    · (conv => whnf)
      refine splitB_t (decide_eq_true (by omega)) ?_
      exact ⟨rfl, rfl⟩
  · refine splitB_f (decide_eq_false (by omega)) ?_
    (conv => whnf)
    refine splitB_f (decide_eq_false (by omega)) ?_
    have bad : ((κ ≠ 1 ∧ κ ≠ 2) ∨ fitsB S = false ∨ C.all insOk = false) → errP κ T C S = 210 := fun h => by rw [errP, if_neg hlim, if_pos h]
    rcases (show κ = 1 ∨ κ = 2 ∨ (κ ≠ 1 ∧ κ ≠ 2) by omega) with hk | hk | ⟨n1, n2⟩
    · subst hk
      cases hS : fitsB S with
      | false =>
        rw [hS] at hrS
        repeat' ((conv => whnf); first | refine CallVC.pureF hrS rfl ?_ | refine splitB_t rfl ?_ | refine splitB_f rfl ?_)
        exact ⟨by rw [bad (.inr (.inl hS))], rfl⟩
      | true =>
        rw [hS] at hrS
        have hS' : 0 ≤ S ∧ S ≤ 2147483647 := by simpa [fitsB] using hS
        cases hall : C.all insOk with
        | false =>
          rw [hall] at hany
          repeat' ((conv => whnf); first | refine CallVC.pureF hrS rfl ?_ | refine CallVC.pureF hany rfl ?_ | refine splitB_t rfl ?_ | refine splitB_f rfl ?_)
          exact ⟨by rw [bad (.inr (.inr hall))], rfl⟩
        | true =>
          have e1 : errP 1 T C S = if 1048576 < hdSz T C S + codeSz C + txtSz T then 3 else 0 := by
            rw [errP, if_neg hlim, if_neg (by rw [hS, hall]; simp)]
          rw [hall] at hany
          repeat' ((conv => whnf); first | refine CallVC.pureF hrS rfl ?_ | refine CallVC.pureF hany rfl ?_ | refine splitB_t rfl ?_ | refine splitB_f rfl ?_)
          (conv => whnf)
          refine write_in 1 T C S (by omega) (by omega) hS' hall _ fun m g ys lo' hm hiff hle => ?_
          (conv => whnf)
          refine ⟨atK_in _ _ _ _ hm rfl, ?_⟩
          (conv => whnf)
          refine splitB_dec (fun h => ?_) (fun h => ?_)
          · exact ⟨by rw [e1, if_pos (hiff.1 h)], rfl⟩
          · exact ⟨by rw [e1, if_neg fun h2 => h (hiff.2 h2)], rfl⟩
    · subst hk
      cases hS : fitsB S with
      | false =>
        rw [hS] at hrS
        repeat' ((conv => whnf); first | refine CallVC.pureF hrS rfl ?_ | refine splitB_t rfl ?_ | refine splitB_f rfl ?_)
        exact ⟨by rw [bad (.inr (.inl hS))], rfl⟩
      | true =>
        rw [hS] at hrS
        have hS' : 0 ≤ S ∧ S ≤ 2147483647 := by simpa [fitsB] using hS
        cases hall : C.all insOk with
        | false =>
          rw [hall] at hany
          repeat' ((conv => whnf); first | refine CallVC.pureF hrS rfl ?_ | refine CallVC.pureF hany rfl ?_ | refine splitB_t rfl ?_ | refine splitB_f rfl ?_)
          exact ⟨by rw [bad (.inr (.inr hall))], rfl⟩
        | true =>
          have e1 : errP 2 T C S = if 1048576 < hdSz T C S + codeSz C + txtSz T then 3 else 0 := by
            rw [errP, if_neg hlim, if_neg (by rw [hS, hall]; simp)]
          rw [hall] at hany
          repeat' ((conv => whnf); first | refine CallVC.pureF hrS rfl ?_ | refine CallVC.pureF hany rfl ?_ | refine splitB_t rfl ?_ | refine splitB_f rfl ?_)
          (conv => whnf)
          refine write_in 2 T C S (by omega) (by omega) hS' hall _ fun m g ys lo' hm hiff hle => ?_
          (conv => whnf)
          refine ⟨atK_in _ _ _ _ hm rfl, ?_⟩
          (conv => whnf)
          refine splitB_dec (fun h => ?_) (fun h => ?_)
          · exact ⟨by rw [e1, if_pos (hiff.1 h)], rfl⟩
          · exact ⟨by rw [e1, if_neg fun h2 => h (hiff.2 h2)], rfl⟩
    · have e := bad (.inl ⟨n1, n2⟩)
      rw [e]
      repeat' ((conv => whnf); first | refine splitB_t (bne_iff_ne.2 n1) ?_ | refine splitB_t (bne_iff_ne.2 n2) ?_ | refine splitB_t rfl ?_ | refine splitB_f rfl ?_)
      all_goals (try (conv => whnf))
      all_goals exact ⟨rfl, rfl⟩

end Go.Proofs.Ythmlninecfjjgaa.AD

namespace Go.Proofs.Ythmlninecfjjgaa.AD
open Go.Proofs
set_option linter.unusedVariables false
set_option linter.unusedSimpArgs false
set_option maxRecDepth 100000

/-- The same so far, or beyond a limit for good. -/
def Big (b : Bs) : Prop := 32768 < b.C.length ∨ 8192 < b.T.length
def Sim (b : Bs) (w : Ws) : Prop := (w.o = false ∧ b.T = w.T ∧ b.C = w.C ∧ b.S = w.S ∧ b.h = w.h) ∨ (w.o = true ∧ Big b)

theorem putB_big (x : Ins) {b : Bs} (h : Big b) : Big (putB x b) := by
  rcases h with h | h
  · refine .inl ?_
    have e : (putB x b).C = b.C := by simp only [putB]; rw [if_neg (by omega)]
    rw [e]; exact h
  · exact .inr h
theorem namedB_big (o : Int) (s : ByteArray) {b : Bs} (h : Big b) : Big (namedB o s b) := by
  rw [namedB]
  split
  · exact putB_big _ h
  · refine putB_big _ ?_
    rcases h with h | h
    · exact .inl h
    · refine .inr ?_
      simp only [List.length_append]
      omega
theorem sim_put (x : Ins) {b : Bs} {w : Ws} (h : Sim b w) : Sim (putB x b) (putW x w) := by
  rcases h with ⟨h0, h1, h2, h3, h4⟩ | ⟨h0, h1⟩
  · by_cases hc : 32768 < w.C.length
    · refine .inr ⟨by rw [putW, if_pos (.inr hc)], putB_big _ (.inl (by rw [h2]; exact hc))⟩
    · refine .inl ?_
      rw [putW, if_neg (by rw [h0]; simp; omega)]
      refine ⟨h0, h1, ?_, ?_, ?_⟩
      · simp only [putB]; rw [if_pos (by rw [h2]; omega), h2]
      · simp only [putB, h3, h4]
      · simp only [putB, h4]
  · exact .inr ⟨by rw [putW, if_pos (.inl h0)], putB_big _ h1⟩
theorem sim_named (o : Int) (s : ByteArray) {b : Bs} {w : Ws} (h : Sim b w) : Sim (namedB o s b) (namedW o s w) := by
  rcases h with ⟨h0, h1, h2, h3, h4⟩ | ⟨h0, h1⟩
  · rw [namedB, namedW, if_neg (by rw [h0]; simp), h1]
    cases tix s w.T with
    | some i => exact sim_put _ (.inl ⟨h0, h1, h2, h3, h4⟩)
    | none =>
      simp only []
      by_cases ht : 8192 < w.T.length
      · rw [if_pos ht]
        refine .inr ⟨rfl, putB_big _ (.inr ?_)⟩
        simp only [List.length_append]
        omega
      · rw [if_neg ht]
        exact sim_put _ (.inl ⟨h0, by simp only [], h2, h3, h4⟩)
  · rw [namedW, if_pos h0]
    exact .inr ⟨h0, namedB_big _ _ h1⟩

theorem licB_big : (∀ e b, Big b → Big (licB e b)) ∧ ∀ l b, Big b → Big (licsB l b) := by
  have main : ∀ l : List Li, (∀ a, a ∈ l → ∀ b, Big b → Big (licB a b)) → ∀ b, Big b → Big (licsB l b) := by
    intro l
    induction l with
    | nil => intro _ b h; exact h
    | cons a r ih => intro h b hb; exact ih (fun c hc => h c (by simp [hc])) _ (h a (by simp) b hb)
  have one : ∀ e b, Big b → Big (licB e b) := by
    intro e
    induction e using Li.ind with
    | h o t k xs ih =>
      intro b hb
      have h1 := main xs ih b hb
      simp only [licB]
      (repeat' split) <;> first | exact namedB_big _ _ hb | exact putB_big _ h1
  exact ⟨one, fun l => main l fun a _ => one a⟩

theorem sim_lic (e : Li) : chkLi e = true → ∀ b w, Sim b w → Sim (licB e b) (licW e w) := by
  induction e using Li.ind with
  | h o t k xs ih =>
    intro hc b w h
    simp only [licB, licW]
    simp only [chkLi] at hc
    by_cases h1 : o = 1
    · rw [if_pos h1, if_pos h1]; exact sim_named _ _ h
    · rw [if_neg h1] at hc
      simp only [Bool.and_eq_true] at hc
      obtain ⟨⟨hc1, _⟩, hc2⟩ := hc
      rw [if_neg h1, if_neg h1]
      have main : ∀ l : List Li, (∀ a, a ∈ l → a ∈ xs) → chkLs l = true → ∀ b w, Sim b w → Sim (licsB l b) (licsW l w) := by
        intro l
        induction l with
        | nil => intro _ _ b w h; exact h
        | cons a r ihr =>
          intro hl hcl b w h
          simp only [chkLs, Bool.and_eq_true] at hcl
          simp only [licsB, licsW]
          by_cases hov : w.o = true
          · rw [if_pos hov]
            rcases h with ⟨h0, _⟩ | ⟨_, hb⟩
            · rw [h0] at hov; cases hov
            · exact .inr ⟨hov, licB_big.2 r _ (licB_big.1 a b hb)⟩
          · rw [if_neg hov]
            exact ihr (fun c hcc => hl c (by simp [hcc])) hcl.2 _ _ (ih a (hl a (by simp)) hcl.1 b w h)
      have h2 := main xs (fun _ h => h) hc2 b w h
      by_cases g2 : o = 2
      · rw [if_pos g2, if_pos g2]; exact sim_put _ h2
      · rw [if_neg g2, if_neg g2]
        by_cases g3 : o = 3
        · rw [if_pos g3, if_pos g3]; exact sim_put _ h2
        · rw [if_neg g3, if_neg g3]
          have g4 : o = 4 := by
            rw [if_neg (by omega)] at hc1
            by_cases g4 : o = 4
            · exact g4
            · rw [if_neg g4] at hc1; cases hc1
          rw [if_pos g4]
          exact sim_put _ h2

/-! ### programs compared -/
theorem eqCells_ins (x : Ins) : eqCells [.int .u8, .int .i64, .int .i64] [.int .u8 x.op, .int .i64 x.a, .int .i64 x.b] [.int .u8 x.op, .int .i64 x.a, .int .i64 x.b] = some true := by
  simp [eqCells]
theorem SameProgram_spec (κ : Int) (T : List ByteArray) (C : List Ins) (S : Int) (hTl : T.length ≤ 1000000000) (hCl : C.length ≤ 1000000000) : pureF Try.prog 13 [.p (encPg κ T C S), .p (encPg κ T C S)] (.p (.bool true)) := by
  have hT := tP_len T
  have hC := cP_len C
  refine pureF_of f13_ok fun H => ?_
  repeat' ((conv => whnf); first | refine splitB_t rfl ?_ | refine splitB_f rfl ?_ | refine splitB_f (by simp) ?_)
  (conv => whnf)
  intro R hR
  have key : ∀ (rest : List ByteArray) (i : Nat), T.drop i = rest → R [(2, .ref (.l 0) 0), (3, .ref (.l 1) 0), (5, .p (.int .i64 i))] H [.cells [.p (.int .u8 κ), .p (.list 1 (tP T)), .p (.list 3 (cP C)), .p (.int .i64 S)], .cells [.p (.int .u8 κ), .p (.list 1 (tP T)), .p (.list 3 (cP C)), .p (.int .i64 S)]] := by
    intro rest
    induction rest with
    | nil =>
      intro i hd
      have hl := drop_nil hd
      refine hR _ _ _ ?_
      (conv => whnf)
      refine splitB_f (decide_eq_false (by omega)) ?_
      (conv => whnf)
      intro R2 hR2
      have key2 : ∀ (rest : List Ins) (i : Nat), C.drop i = rest → R2 [(2, .ref (.l 0) 0), (3, .ref (.l 1) 0), (6, .p (.int .i64 i))] H [.cells [.p (.int .u8 κ), .p (.list 1 (tP T)), .p (.list 3 (cP C)), .p (.int .i64 S)], .cells [.p (.int .u8 κ), .p (.list 1 (tP T)), .p (.list 3 (cP C)), .p (.int .i64 S)]] := by
        intro rest
        induction rest with
        | nil =>
          intro i hd
          have hl := drop_nil hd
          refine hR2 _ _ _ ?_
          (conv => whnf)
          refine splitB_f (decide_eq_false (by omega)) ?_
          exact ⟨rfl, rfl⟩
        | cons x r ihr =>
          intro i hd
          obtain ⟨hg, hd', hi⟩ := drop_cons hd
          refine hR2 _ _ _ ?_
          (conv => whnf)
          refine splitB_t (decide_eq_true (by omega)) ?_
          (conv => whnf)
          refine ⟨rfl, insP x, ⟨by omega, cP_get hg⟩, ?_⟩
          (conv => whnf)
          refine ⟨rfl, insP x, ⟨by omega, cP_get hg⟩, ?_⟩
          (conv => whnf)
          refine ⟨true, eqCells_ins x, ?_⟩
          (conv => whnf)
          refine splitB_f rfl ?_
          (conv => whnf)
          rw [IntWalk.i64_in (i + 1) (by omega)]
          exact ihr (i + 1) hd'
      exact key2 C 0 rfl
    | cons t r ihr =>
      intro i hd
      obtain ⟨hg, hd', hi⟩ := drop_cons hd
      refine hR _ _ _ ?_
      (conv => whnf)
      refine splitB_t (decide_eq_true (by omega)) ?_
      (conv => whnf)
      refine ⟨rfl, .str t, ⟨by omega, tP_get hg⟩, ?_⟩
      (conv => whnf)
      refine ⟨rfl, .str t, ⟨by omega, tP_get hg⟩, ?_⟩
      (conv => whnf)
      refine splitB_f (by simp) ?_
      (conv => whnf)
      rw [IntWalk.i64_in (i + 1) (by omega)]
      exact ihr (i + 1) hd'
  exact key T 0 rfl

end Go.Proofs.Ythmlninecfjjgaa.AD

namespace Go.Proofs.Ythmlninecfjjgaa.AD
open Go.Proofs
set_option linter.unusedVariables false
set_option linter.unusedSimpArgs false
set_option maxRecDepth 100000

mutual
def ew : Ex → Int → Int
  | .mk _ t xs, most => ews xs most (lcap t most)
def ews : List Ex → Int → Int → Int
  | [], most, n => n
  | a :: r, most, n => if n ≤ most then ews r most (n + ew a (most - n)) else n
end
mutual
def ecnt : Ex → Int
  | .mk _ _ xs => 1 + ecnts xs
def ecnts : List Ex → Int
  | [] => 0
  | a :: r => ecnt a + ecnts r
end

theorem ews_le : (∀ e most, 0 ≤ most → 1 ≤ ew e most ∧ ew e most ≤ most + 1) ∧ ∀ l most n, 0 ≤ most → 1 ≤ n → n ≤ most + 1 → n ≤ ews l most n ∧ ews l most n ≤ most + 1 := by
  have main : ∀ l, (∀ a, a ∈ l → ∀ most, 0 ≤ most → 1 ≤ ew a most ∧ ew a most ≤ most + 1) → ∀ most n, 0 ≤ most → 1 ≤ n → n ≤ most + 1 → n ≤ ews l most n ∧ ews l most n ≤ most + 1 := by
    intro l
    induction l with
    | nil => intro _ most n _ _ _; simp only [ews]; omega
    | cons a r ih =>
      intro hl most n h0 h1 h2
      simp only [ews]
      split
      · have := hl a (by simp) (most - n) (by omega)
        have := ih (fun b hb => hl b (by simp [hb])) most (n + ew a (most - n)) h0 (by omega) (by omega)
        omega
      · omega
  have one : ∀ e most, 0 ≤ most → 1 ≤ ew e most ∧ ew e most ≤ most + 1 := by
    intro e
    induction e using Ex.ind with
    | h o t xs ih =>
      intro most h0
      simp only [ew]
      have hc : 1 ≤ lcap t most ∧ lcap t most ≤ most + 1 := by simp only [lcap]; split <;> omega
      have := main xs ih most (lcap t most) h0 (by omega) (by omega)
      omega
  exact ⟨one, fun l => main l fun a _ => one a⟩

/-- No row and no text is long. -/
inductive FewE : Ex → Prop
  | mk (o : Int) (t : ByteArray) (xs : List Ex) : t.size ≤ 20000 → xs.length ≤ 20000 → (∀ a, a ∈ xs → FewE a) → FewE (.mk o t xs)

theorem fewE_of (e : Ex) : ∀ most : Int, 0 ≤ most → most ≤ 20000 → ew e most ≤ most → FewE e ∧ ecnt e ≤ ew e most := by
  induction e using Ex.ind with
  | h o t xs ih =>
    intro most h0 hm h
    have main : ∀ (l : List Ex) (n : Int), (∀ a, a ∈ l → a ∈ xs) → 1 ≤ n → n ≤ most + 1 → ews l most n ≤ most → n + l.length ≤ most ∧ (∀ a, a ∈ l → FewE a) ∧ n + ecnts l ≤ ews l most n := by
      intro l
      induction l with
      | nil => intro n _ _ _ h; simp only [ews] at h; exact ⟨by simpa using h, (fun a ha => by cases ha), by simp [ecnts, ews]⟩
      | cons a r ihr =>
        intro n hl h1 h2 h
        simp only [ews] at h
        split at h
        · rename_i h3
          have h4 := ews_le.1 a (most - n) (by omega)
          have h5 := ews_le.2 r most (n + ew a (most - n)) h0 (by omega) (by omega)
          obtain ⟨g1, g2⟩ := ih a (hl a (by simp)) (most - n) (by omega) (by omega) (by omega)
          obtain ⟨g3, g4, g5⟩ := ihr _ (fun b hb => hl b (by simp [hb])) (by omega) (by omega) h
          refine ⟨by simp; omega, fun b hb => ?_, ?_⟩
          · cases hb with
            | head => exact g1
            | tail _ hb => exact g4 b hb
          · simp only [ecnts, ews, if_pos h3]; omega
        · omega
    simp only [ew] at h
    have hc : 1 ≤ lcap t most ∧ lcap t most ≤ most + 1 := by simp only [lcap]; split <;> omega
    obtain ⟨g1, g2, g3⟩ := main xs (lcap t most) (fun _ h => h) hc.1 hc.2 h
    have ht : t.size ≤ 20000 := by
      have hx := ews_le.2 xs most (lcap t most) h0 hc.1 hc.2
      have h9 : lcap t most ≤ most := by omega
      simp only [lcap] at h9
      split at h9 <;> omega
    refine ⟨.mk o t xs ht (by omega) g2, ?_⟩
    simp only [ecnt, ew]
    omega

theorem Weight_spec (e : Ex) : Fits e → ∀ most : Int, 0 ≤ most → most ≤ 4611686018427387904 → pureF Try.prog 34 [.p (enc e), .p (.int .i64 most)] (.p (.int .i64 (ew e most))) := by
  induction e using Ex.ind with
  | h o t xs ih =>
    intro hf most h1 h2
    cases hf with
    | mk _ _ _ ho ht hx hxs =>
    have he := encs_len xs
    have hc : 1 ≤ lcap t most ∧ lcap t most ≤ most + 1 := by simp only [lcap]; split <;> omega
    refine pureF_of f34_ok fun H => ?_
    (conv => whnf)
    rw [IntWalk.i64_in _ (by have := hc; simp only [lcap] at this; exact ⟨by omega, by omega⟩)]
    intro R hR
    have key : ∀ (rest : List Ex) (i : Nat) (n : Int), xs.drop i = rest → 1 ≤ n → n ≤ most + 1 → ews rest most n = ew (.mk o t xs) most → R [(1, .p (.int .i64 most)), (2, .ref (.l 0) 0), (5, .p (.int .i64 n)), (6, .p (.int .i64 i))] H [.cells [.p (.int .u8 o), .p (.str t), .p (.list 3 (encs xs))]] := by
      intro rest
      induction rest with
      | nil =>
        intro i n hd hn hb hs
        have hl := drop_nil hd
        refine hR _ _ _ ?_
        (conv => whnf)
        refine splitB_f (decide_eq_false (by omega)) ?_
        (conv => whnf)
        refine splitB_f rfl ?_
        exact ⟨by rw [← hs]; rfl, rfl⟩
      | cons a r ihr =>
        intro i n hd hn hb hs
        obtain ⟨hg, hd', hi⟩ := drop_cons hd
        have iha := ih a (List.mem_of_getElem? hg) (hxs a (List.mem_of_getElem? hg))
        have hle := ews_le.1 a (most - n)
        refine hR _ _ _ ?_
        (conv => whnf)
        refine splitB_t (decide_eq_true (by omega)) ?_
        (conv => whnf)
        refine splitB_dec (fun h3 => ?_) (fun h3 => ?_)
        · obtain ⟨o', t', xs'⟩ := a
          have hle := hle (by omega)
          (conv => whnf)
          refine ⟨rfl, enc (.mk o' t' xs'), ⟨by omega, encs_get hg⟩, ?_⟩
          (conv => whnf)
          rw [IntWalk.i64_in (most - n) (by omega)]
          refine CallVC.pureF (iha (most - n) (by omega) (by omega)) rfl ?_
          (conv => whnf)
          rw [IntWalk.i64_in _ (by omega), IntWalk.i64_in _ (by omega)]
          exact ihr (i + 1) _ hd' (by omega) (by omega) (by rw [← hs]; simp only [ews, if_pos h3])
        · exact ⟨by rw [← hs]; simp only [ews, if_neg h3], rfl⟩
    exact key xs 0 (lcap t most) rfl hc.1 hc.2 rfl


/-- What is reached behind a test and a value. -/
def wTV (t v : Ex) (most n : Int) : Int :=
  if n + 1 + ew t (most - n) ≤ most then n + 1 + ew t (most - n) + ew v (most - (n + 1 + ew t (most - n))) else n + 1 + ew t (most - n)
mutual
def wC : Cl → Int → Int → Int
  | .mk _ t v b, most, n => if wTV t v most n ≤ most then wTV t v most n + wCs b (most - wTV t v most n) 0 else wTV t v most n
def wCs : List Cl → Int → Int → Int
  | [], most, n => n
  | c :: r, most, n => if n ≤ most then wCs r most (wC c most n) else n
end

theorem wTV_le (t v : Ex) (most n : Int) (h : n ≤ most) : n + 2 ≤ wTV t v most n ∧ wTV t v most n ≤ most + 2 := by
  have h1 := ews_le.1 t (most - n) (by omega)
  simp only [wTV]
  split
  · have h2 := ews_le.1 v (most - (n + 1 + ew t (most - n))) (by omega)
    omega
  · omega

theorem wCs_ge : (∀ c most n, n ≤ most → n + 2 ≤ wC c most n ∧ wC c most n ≤ most + 2) ∧ ∀ l most n, n ≤ wCs l most n ∧ (wCs l most n ≤ n ∨ wCs l most n ≤ most + 2) := by
  have main : ∀ l : List Cl, (∀ c, c ∈ l → ∀ most n, n ≤ most → n + 2 ≤ wC c most n ∧ wC c most n ≤ most + 2) → ∀ most n, n ≤ wCs l most n ∧ (wCs l most n ≤ n ∨ wCs l most n ≤ most + 2) := by
    intro l
    induction l with
    | nil => intro _ most n; simp only [wCs]; omega
    | cons c r ih =>
      intro h most n
      simp only [wCs]
      split
      · rename_i hn
        have h1 := h c (by simp) most n hn
        have h2 := ih (fun c hc => h c (by simp [hc])) most (wC c most n)
        omega
      · omega
  have one : ∀ c most n, n ≤ most → n + 2 ≤ wC c most n ∧ wC c most n ≤ most + 2 := by
    intro c
    induction c using Cl.ind with
    | h k t v b ih =>
      intro most n hn
      have h1 := wTV_le t v most n hn
      have h2 := main b ih (most - wTV t v most n) 0
      simp only [wC]
      split <;> omega
  exact ⟨one, fun l => main l fun c _ => one c⟩

theorem Weights_ind (l : List Cl) (hl : (l.length : Int) ≤ 9223372036854775807) (hf : ∀ c, c ∈ l → FitsC c) (ih : ∀ k t v b, Cl.mk k t v b ∈ l → ∀ most : Int, 0 ≤ most → most ≤ 4611686018427387904 → pureF Try.prog 16 [.p (.list 8 (encCs b)), .p (.int .i64 most)] (.p (.int .i64 (wCs b most 0)))) (most : Int) (h1 : 0 ≤ most) (h2 : most ≤ 4611686018427387904) :
    pureF Try.prog 16 [.p (.list 8 (encCs l)), .p (.int .i64 most)] (.p (.int .i64 (wCs l most 0))) := by
  have he := encCs_len l
  refine pureF_of f16_ok fun H => ?_
  (conv => whnf)
  intro R hR
  have key : ∀ (rest : List Cl) (i : Nat) (n : Int), l.drop i = rest → (i : Int) ≤ n → n ≤ most + 2 → wCs rest most n = wCs l most 0 → R [(0, .p (.list 8 (encCs l))), (1, .p (.int .i64 most)), (5, .p (.int .i64 n)), (6, .p (.int .i64 i))] H [] := by
    intro rest
    induction rest with
    | nil =>
      intro i n hd hn hb hs
      have hl := drop_nil hd
      refine hR _ _ _ ?_
      (conv => whnf)
      refine splitB_f (decide_eq_false (by omega)) ?_
      exact ⟨by rw [← hs]; rfl, rfl⟩
    | cons c r ihr =>
      intro i n hd hn hb hs
      obtain ⟨hg, hd', hi⟩ := drop_cons hd
      refine hR _ _ _ ?_
      (conv => whnf)
      refine splitB_t (decide_eq_true (by omega)) ?_
      (conv => whnf)
      refine splitB_dec (fun h3 => ?_) (fun h3 => ?_)
      · have hmem := List.mem_of_getElem? hg
        have hrest : wCs (c :: r) most n = wCs r most (wC c most n) := by simp only [wCs, if_pos h3]
        have hlim := wCs_ge.1 c most n h3
        obtain ⟨k, ⟨o, t, xs⟩, ⟨o2, t2, xs2⟩, b⟩ := c
        have ihc := ih _ _ _ _ hmem
        have hfc := hf _ hmem
        have hst := Weight_spec (.mk o t xs) (by cases hfc; assumption)
        have hsv := Weight_spec (.mk o2 t2 xs2) (by cases hfc; assumption)
        have g1 := ews_le.1 (.mk o t xs) (most - n) (by omega)
        have hC : wC (.mk k (.mk o t xs) (.mk o2 t2 xs2) b) most n = if wTV (.mk o t xs) (.mk o2 t2 xs2) most n ≤ most then wTV (.mk o t xs) (.mk o2 t2 xs2) most n + wCs b (most - wTV (.mk o t xs) (.mk o2 t2 xs2) most n) 0 else wTV (.mk o t xs) (.mk o2 t2 xs2) most n := rfl
        have hTVle := wTV_le (.mk o t xs) (.mk o2 t2 xs2) most n h3
        generalize hTV : wTV (.mk o t xs) (.mk o2 t2 xs2) most n = tv at hC hTVle
        (conv => whnf)
        refine ⟨rfl, encC (.mk k (.mk o t xs) (.mk o2 t2 xs2) b), ⟨by omega, encCs_get hg⟩, ?_⟩
        (conv => whnf)
        rw [IntWalk.i64_in (most - n) (by omega)]
        refine CallVC.pureF (hst (most - n) (by omega) (by omega)) rfl ?_
        generalize hn1 : ew (.mk o t xs) (most - n) = s1 at g1
        have e1 : tv = if n + 1 + s1 ≤ most then n + 1 + s1 + ew (.mk o2 t2 xs2) (most - (n + 1 + s1)) else n + 1 + s1 := by rw [← hTV, wTV, hn1]
        (conv => whnf)
        rw [IntWalk.i64_in (n + 1) (by omega), IntWalk.i64_in (n + 1 + s1) (by omega)]
        refine splitB_dec (fun h4 => ?_) (fun h4 => ?_)
        · have g2 := ews_le.1 (.mk o2 t2 xs2) (most - (n + 1 + s1)) (by omega)
          rw [if_pos h4] at e1
          (conv => whnf)
          refine ⟨rfl, encC (.mk k (.mk o t xs) (.mk o2 t2 xs2) b), ⟨by omega, encCs_get hg⟩, ?_⟩
          (conv => whnf)
          rw [IntWalk.i64_in (most - (n + 1 + s1)) (by omega)]
          refine CallVC.pureF (hsv (most - (n + 1 + s1)) (by omega) (by omega)) rfl ?_
          generalize hn2 : ew (.mk o2 t2 xs2) (most - (n + 1 + s1)) = s2 at g2 e1
          (conv => whnf)
          rw [IntWalk.i64_in (n + 1 + s1 + s2) (by omega), ← e1]
          refine splitB_dec (fun h5 => ?_) (fun h5 => ?_)
          · have g3 := wCs_ge.2 b (most - tv) 0
            rw [if_pos h5] at hC
            (conv => whnf)
            refine ⟨rfl, encC (.mk k (.mk o t xs) (.mk o2 t2 xs2) b), ⟨by omega, encCs_get hg⟩, ?_⟩
            (conv => whnf)
            rw [IntWalk.i64_in (most - tv) (by omega)]
            refine CallVC.pureF (ihc (most - tv) (by omega) (by omega)) rfl ?_
            (conv => whnf)
            rw [IntWalk.i64_in _ (by omega), IntWalk.i64_in _ (by omega), ← hC]
            exact ihr (i + 1) _ hd' (by omega) (by omega) (by rw [← hs, hrest])
          · rw [if_neg h5] at hC
            (conv => whnf)
            rw [IntWalk.i64_in _ (by omega), ← hC]
            exact ihr (i + 1) _ hd' (by omega) (by omega) (by rw [← hs, hrest])
        · rw [if_neg h4] at e1
          (conv => whnf)
          rw [← e1]
          refine splitB_f (decide_eq_false (by omega)) ?_
          rw [if_neg (by omega)] at hC
          (conv => whnf)
          rw [IntWalk.i64_in _ (by omega), ← hC]
          exact ihr (i + 1) _ hd' (by omega) (by omega) (by rw [← hs, hrest])
      · exact ⟨by rw [← hs]; simp only [wCs, if_neg h3], rfl⟩
  exact key l 0 0 rfl (by omega) (by omega) rfl

theorem Weights_all (c : Cl) : ∀ k t v b, c = .mk k t v b → FitsC c → ∀ most : Int, 0 ≤ most → most ≤ 4611686018427387904 → pureF Try.prog 16 [.p (.list 8 (encCs b)), .p (.int .i64 most)] (.p (.int .i64 (wCs b most 0))) := by
  induction c using Cl.ind with
  | h k t v b ih =>
    intro k' t' v' b' e hf most h1 h2
    cases e
    cases hf with
    | mk _ _ _ _ _ _ _ hb1 hb2 => exact Weights_ind b hb1 hb2 (fun k2 t2 v2 b2 hm => ih _ hm k2 t2 v2 b2 rfl (hb2 _ hm)) most h1 h2
theorem Weights_spec (l : List Cl) (hl : (l.length : Int) ≤ 9223372036854775807) (hf : ∀ c, c ∈ l → FitsC c) (most : Int) (h1 : 0 ≤ most) (h2 : most ≤ 4611686018427387904) : pureF Try.prog 16 [.p (.list 8 (encCs l)), .p (.int .i64 most)] (.p (.int .i64 (wCs l most 0))) :=
  Weights_ind l hl hf (fun k t v b hm => Weights_all _ k t v b rfl (hf _ hm)) most h1 h2
mutual
def ccnt : Cl → Int
  | .mk _ t v b => 1 + ecnt t + ecnt v + ccnts b
def ccnts : List Cl → Int
  | [] => 0
  | c :: r => ccnt c + ccnts r
end
/-- No row and no text is long. -/
inductive FewD : Cl → Prop
  | mk (k : Int) (t v : Ex) (b : List Cl) : FewE t → FewE v → b.length ≤ 20000 → (∀ c, c ∈ b → FewD c) → FewD (.mk k t v b)

theorem FewE.few {e : Ex} (h : FewE e) : Few e := by
  induction h with
  | mk o t xs _ h _ ih => exact .mk o t xs h ih
theorem FewD.fewC {c : Cl} (h : FewD c) : FewC c := by
  induction h with
  | mk k t v b h1 h2 h3 _ ih => exact .mk k t v b h1.few h2.few h3 ih

theorem fewD_all : ∀ c : Cl, ∀ most n : Int, most ≤ 20000 → 0 ≤ n → n ≤ most → wC c most n ≤ most → FewD c ∧ n + ccnt c ≤ wC c most n := by
  intro c
  induction c using Cl.ind with
  | h k t v b ih =>
    intro most n hm h0 hn h
    have main : ∀ (l : List Cl) (m n : Int), (∀ c, c ∈ l → c ∈ b) → m ≤ 20000 → 0 ≤ n → wCs l m n ≤ m → n + l.length ≤ m ∧ (∀ c, c ∈ l → FewD c) ∧ n + ccnts l ≤ wCs l m n := by
      intro l
      induction l with
      | nil => intro m n _ _ _ h; simp only [wCs] at h; exact ⟨by simpa using h, (fun c hc => by cases hc), by simp [ccnts, wCs]⟩
      | cons c r ihr =>
        intro m n hl hm h0 h
        simp only [wCs] at h
        split at h
        · rename_i h2
          have h3 := wCs_ge.1 c m n h2
          have h4 := wCs_ge.2 r m (wC c m n)
          obtain ⟨h6, h7, h8⟩ := ihr m _ (fun d hd => hl d (by simp [hd])) hm (by omega) h
          obtain ⟨k1, k2⟩ := ih c (hl c (by simp)) m n hm h0 h2 (by omega)
          refine ⟨by simp; omega, fun d hd => ?_, ?_⟩
          · cases hd with
            | head => exact k1
            | tail _ hd => exact h7 d hd
          · simp only [ccnts, wCs, if_pos h2]; omega
        · omega
    have h1 := wTV_le t v most n hn
    simp only [wC] at h ⊢
    split at h
    · rename_i h2
      obtain ⟨h3, h4, h8⟩ := main b (most - wTV t v most n) 0 (fun c hc => hc) (by omega) (by omega) (by omega)
      have g1 := ews_le.1 t (most - n) (by omega)
      by_cases h5 : n + 1 + ew t (most - n) ≤ most
      · have e1 : wTV t v most n = n + 1 + ew t (most - n) + ew v (most - (n + 1 + ew t (most - n))) := by rw [wTV, if_pos h5]
        have g2 := ews_le.1 v (most - (n + 1 + ew t (most - n))) (by omega)
        obtain ⟨p1, p2⟩ := fewE_of t (most - n) (by omega) (by omega) (by omega)
        obtain ⟨q1, q2⟩ := fewE_of v (most - (n + 1 + ew t (most - n))) (by omega) (by omega) (by omega)
        refine ⟨.mk k t v b p1 q1 (by omega) h4, ?_⟩
        rw [if_pos h2]
        simp only [ccnt]
        omega
      · have e1 : wTV t v most n = n + 1 + ew t (most - n) := by rw [wTV, if_neg h5]
        omega
    · omega

theorem fewDs_of (l : List Cl) (m : Int) (hm : m ≤ 20000) (h : wCs l m 0 ≤ m) : l.length ≤ 20000 ∧ (∀ c, c ∈ l → FewD c) ∧ ccnts l ≤ m := by
  have main : ∀ (l : List Cl) (n : Int), 0 ≤ n → wCs l m n ≤ m → n + l.length ≤ m ∧ (∀ c, c ∈ l → FewD c) ∧ n + ccnts l ≤ wCs l m n := by
    intro l
    induction l with
    | nil => intro n _ h; simp only [wCs] at h; exact ⟨by simpa using h, (fun c hc => by cases hc), by simp [ccnts, wCs]⟩
    | cons c r ihr =>
      intro n h0 h
      simp only [wCs] at h
      split at h
      · rename_i h2
        have h3 := wCs_ge.1 c m n h2
        have h4 := wCs_ge.2 r m (wC c m n)
        obtain ⟨h6, h7, h8⟩ := ihr _ (by omega) h
        obtain ⟨k1, k2⟩ := fewD_all c m n hm h0 h2 (by omega)
        refine ⟨by simp; omega, fun d hd => ?_, ?_⟩
        · cases hd with
          | head => exact k1
          | tail _ hd => exact h7 d hd
        · simp only [ccnts, wCs, if_pos h2]; omega
      · omega
  obtain ⟨h1, h2, h3⟩ := main l 0 (by omega) h
  exact ⟨by omega, h2, by omega⟩

end Go.Proofs.Ythmlninecfjjgaa.AD

namespace Go.Proofs.Ythmlninecfjjgaa.AD
open Go.Proofs
set_option linter.unusedVariables false
set_option linter.unusedSimpArgs false
set_option maxRecDepth 100000

/-- The instruction of a kind with parts. -/
def insOf (o : Int) : Int := if o = 3 then 5 else if o = 4 then 8 else if o = 8 then 7 else if o = 23 then 26 else if o = 24 then 27 else if o = 25 then 23 else o
def insTab : List PV := [.int .u8 0, .int .u8 0, .int .u8 0, .int .u8 5, .int .u8 8, .int .u8 0, .int .u8 6, .int .u8 0, .int .u8 7, .int .u8 9, .int .u8 10, .int .u8 11, .int .u8 12, .int .u8 13, .int .u8 14, .int .u8 15, .int .u8 16, .int .u8 17, .int .u8 18, .int .u8 19, .int .u8 20, .int .u8 21, .int .u8 22, .int .u8 26, .int .u8 27, .int .u8 23, .int .u8 0, .int .u8 0]
theorem instrs_spec : pureF Try.prog 87 [] (.p (.agg insTab)) := by
  refine pureF_of f87_ok fun H => ?_
  (conv => whnf)
  exact ⟨rfl, rfl⟩

theorem ins_range {o : Int} (h : arityI o = 1 ∨ arityI o = 2) : (0 ≤ o ∧ o < 28) ∧ insTab[o.toNat * 1]? = some (.int .u8 (insOf o)) ∧ 1 ≤ insOf o ∧ insOf o ≤ 38 := by
  rcases h with h | h
  · rcases arity1 h with rfl | rfl | rfl | rfl | rfl <;> exact ⟨by omega, rfl, by decide, by decide⟩
  · rcases arity2 h with rfl | rfl | rfl | rfl | rfl | rfl | rfl | rfl | rfl | rfl | rfl | rfl | rfl | rfl | rfl | rfl <;> exact ⟨by omega, rfl, by decide, by decide⟩

/-- A leap's place told. -/
def setA (i : Nat) (n : Int) (C : List Ins) : List Ins := C.modify i fun x => ⟨x.op, n, x.b⟩
theorem setA_len (i : Nat) (n : Int) (C : List Ins) : (setA i n C).length = C.length := by simp [setA]
theorem setA_get {i : Nat} {n : Int} {C : List Ins} {x : Ins} (h : C[i]? = some x) : setA i n C = C.set i ⟨x.op, n, x.b⟩ := by
  rw [setA]
  refine List.ext_getElem? fun j => ?_
  rw [List.getElem?_modify, List.getElem?_set]
  by_cases e : i = j
  · subst e
    rw [if_pos rfl, if_pos (get_lt h), h]
    simp
  · rw [if_neg e]
    simp [e]
theorem cP_set (i : Nat) (x : Ins) (C : List Ins) : cP (C.set i x) = (cP C).set i (insP x) := by rw [cP, List.map_set]; rfl

def landB (at_ : Nat) (b : Bs) : Bs := { b with C := setA (min at_ (b.C.length - 1)) b.C.length b.C }

def exB : Ex → Bs → Bs
  | .mk o t [], b => if o = 1 then namedB 1 t b else if o = 2 then namedB 4 t b else if o = 5 then namedB 2 t b else if o = 7 then namedB 3 t b else if o = 26 then putB ⟨24, 0, 0⟩ b else if o = 27 then putB ⟨25, 0, 0⟩ b else b
  | .mk o t [a], b => putB ⟨insOf o, 0, 0⟩ (exB a b)
  | .mk o t [a, c], b => if o = 23 ∨ o = 24 then landB (exB a b).C.length (exB c (putB ⟨insOf o, 0, 0⟩ (exB a b))) else putB ⟨insOf o, 0, 0⟩ (exB c (exB a b))
  | .mk _ _ (_ :: _ :: _ :: _), b => b

theorem landB_T (n : Nat) (b : Bs) : (landB n b).T = b.T := rfl
theorem landB_len (n : Nat) (b : Bs) : (landB n b).C.length = b.C.length := setA_len _ _ _

theorem ecnts_pos : (∀ e, 1 ≤ ecnt e) ∧ ∀ l, 0 ≤ ecnts l := by
  have main : ∀ l : List Ex, (∀ a, a ∈ l → 1 ≤ ecnt a) → 0 ≤ ecnts l := by
    intro l
    induction l with
    | nil => intro _; simp [ecnts]
    | cons a r ihr => intro h; have := h a (by simp); have := ihr (fun c hc => h c (by simp [hc])); simp only [ecnts]; omega
  have one : ∀ e, 1 ≤ ecnt e := by
    intro e
    induction e using Ex.ind with
    | h o t xs ih => have := main xs ih; simp only [ecnt]; omega
  exact ⟨one, fun l => main l fun a _ => one a⟩

theorem putB_len (x : Ins) (b : Bs) : b.C.length ≤ (putB x b).C.length ∧ (b.C.length ≤ 32769 → (putB x b).C.length ≤ 32769 ∧ 1 ≤ (putB x b).C.length) := by
  simp only [putB]
  split
  · simp; omega
  · omega
theorem namedB_len (o : Int) (s : ByteArray) (b : Bs) : b.C.length ≤ (namedB o s b).C.length ∧ (b.C.length ≤ 32769 → (namedB o s b).C.length ≤ 32769 ∧ 1 ≤ (namedB o s b).C.length) := by
  rw [namedB]
  split <;> exact putB_len _ _

/-- How much a piece of code adds. -/
structure Adds (b b' : Bs) (n : Int) : Prop where
  T : (b'.T.length : Int) ≤ b.T.length + n
  up : b.C.length ≤ b'.C.length
  lim : b.C.length ≤ 32769 → b'.C.length ≤ 32769 ∧ 1 ≤ b'.C.length
theorem putB_adds (x : Ins) (b : Bs) : Adds b (putB x b) 0 := ⟨by rw [putB_T]; omega, (putB_len x b).1, (putB_len x b).2⟩
theorem namedB_adds (o : Int) (s : ByteArray) (b : Bs) : Adds b (namedB o s b) 1 := ⟨by have := namedB_T o s b; omega, (namedB_len o s b).1, (namedB_len o s b).2⟩
theorem Adds.trans {a b c : Bs} {n m : Int} (h : Adds a b n) (k : Adds b c m) : Adds a c (n + m) := ⟨by have := h.T; have := k.T; omega, Nat.le_trans h.up k.up, fun e => k.lim (h.lim e).1⟩
theorem Adds.land {a b : Bs} {n : Int} (h : Adds a b n) (k : Nat) : Adds a (landB k b) n := ⟨h.T, by rw [landB_len]; exact h.up, fun e => by rw [landB_len]; exact h.lim e⟩
theorem Adds.more {a b : Bs} {n m : Int} (h : Adds a b n) (k : n ≤ m) : Adds a b m := ⟨by have := h.T; omega, h.up, h.lim⟩

theorem exB_adds (e : Ex) : Shaped e → ∀ b, Adds b (exB e b) (ecnt e) := by
  induction e using Ex.ind with
  | h o t xs ih =>
    intro hs b
    rcases hs.args with ⟨h0, rfl⟩ | ⟨h0, a, rfl, ha⟩ | ⟨h0, a, c, rfl, ha, hc⟩
    · simp only [exB]
      have e1 : (ecnt (.mk o t [])) = 1 := rfl
      rw [e1]
      rcases arity0 h0 with rfl | rfl | rfl | rfl | rfl | rfl <;> simp only [Int.reduceEq, if_true, if_false] <;> first | exact namedB_adds _ _ _ | exact (putB_adds _ _).more (by omega)
    · simp only [exB]
      exact ((ih a (by simp) ha b).trans (putB_adds _ _)).more (by simp only [ecnt, ecnts]; omega)
    · have h1 := ih a (by simp) ha b
      simp only [exB]
      split
      · exact (((h1.trans (putB_adds ⟨insOf o, 0, 0⟩ _)).trans (ih c (by simp) hc _)).land _).more (by simp only [ecnt, ecnts]; omega)
      · exact ((h1.trans (ih c (by simp) hc _)).trans (putB_adds _ _)).more (by simp only [ecnt, ecnts]; omega)

theorem land_spec (κ : Int) (b : Bs) (n : Nat) (lo rest : List Ob) (k : Nat) (K : AV → List Ob → List Ob → Prop) (h1 : lo[k]? = some (.cells [.ref (.b 0) 0])) (h2 : lo[k + 1]? = some (.cells [.p (.int .i64 n)])) (hc1 : 1 ≤ b.C.length) (hc2 : b.C.length ≤ 32769)
    (hK : K (.p (.tup [])) (bos κ (landB n b) ++ rest) lo) : CallVC Try.prog 86 [.ref (.l k) 0, .ref (.l (k + 1)) 0] (bos κ b ++ rest) lo K := by
  have hc := cP_len b.C
  have hlt : min n (b.C.length - 1) < b.C.length := by omega
  have hx : b.C[min n (b.C.length - 1)]? = some b.C[min n (b.C.length - 1)] := List.getElem?_eq_getElem hlt
  refine CallVC.inline f86_ok ?_
  (conv => whnf)
  refine atK_in _ _ _ _ h1 ?_
  (conv => whnf)
  refine atK_in _ _ _ _ h2 ?_
  (conv => whnf)
  refine atK_in _ _ _ _ h1 ?_
  (conv => whnf)
  refine ⟨rfl, ?_⟩
  (conv => whnf)
  rw [IntWalk.i64_in _ (by omega)]
  refine atK_in _ _ _ _ h1 ?_
  (conv => whnf)
  refine ⟨rfl, ?_⟩
  (conv => whnf)
  have hm : (if (b.C.length : Int) - 1 < (n : Int) then (b.C.length : Int) - 1 else (n : Int)) = ((min n (b.C.length - 1) : Nat) : Int) := by split <;> omega
  rw [hm]
  refine ⟨⟨rfl, by omega, by omega⟩, rfl, ?_⟩
  (conv => whnf)
  have hne : cP b.C ≠ [] := fun e => by rw [e] at hc; simp at hc; omega
  refine ⟨⟨rfl, hne⟩, ?_⟩
  (conv => whnf)
  refine ⟨⟨rfl, rfl⟩, insP _, cP_get hx, ?_⟩
  (conv => whnf)
  have e : bos κ (landB n b) = [.cells [.p (.int .u8 κ), .view (.b 1) b.T.length 1 b.T.length, .view (.b 2) b.C.length 3 b.C.length, .p (.int .i64 b.S), .mapr (.b 3), .p (.int .i64 b.h)],
      .buf b.T.length 1 (tP b.T), .buf b.C.length 3 ((cP b.C).set (min n (b.C.length - 1)) (insP ⟨(b.C[min n (b.C.length - 1)]).op, b.C.length, (b.C[min n (b.C.length - 1)]).b⟩)), .map (mP 0 b.T)] := by
    simp only [bos, landB, setA_len]
    rw [setA_get hx, cP_set]
  rw [e] at hK
  exact hK

/-- Where a leap stands that is not told yet. -/
def leapLo (n : Nat) : List Ob := [.cells [.ref (.b 0) 0], .cells [.p (.int .i64 n)]]

theorem leap_VC (κ : Int) (b : Bs) (o : Int) (lo rest : List Ob) (K : AV → List Ob → List Ob → Prop)
    (k : K (.clos (.func 86) [] [.ref (.l lo.length) 0, .ref (.l (lo.length + 1)) 0]) (bos κ (putB ⟨o, 0, 0⟩ b) ++ rest) (lo ++ leapLo b.C.length)) :
    CallVC Try.prog 57 [.ref (.b 0) 0, .p (.int .u8 o)] (bos κ b ++ rest) lo K := by
  refine CallVC.inline f57_ok ?_
  (conv => whnf)
  rw [pushK_eq]
  have g1 : ∀ X : List Ob, (lo ++ [.cells [.ref (.b 0) 0]] ++ X)[lo.length]? = some (.cells [.ref (.b 0) 0]) := fun X => by simp
  have g2 : ∀ c : Ob, (lo ++ [.cells [.ref (.b 0) 0]] ++ [c])[lo.length + 1]? = some c := fun c => by
    rw [List.getElem?_append_right (by simp)]
    simp
  have g1' := g1 []
  rw [List.append_nil] at g1'
  (conv => whnf)
  refine atK_in _ _ _ _ g1' ?_
  (conv => whnf)
  refine ⟨rfl, ?_⟩
  (conv => whnf)
  rw [pushK_eq]
  (conv => whnf)
  refine atK_in _ _ _ (.cells [.p (.int .i64 0)]) (by rw [List.length_append]; exact g2 _) ?_
  (conv => whnf)
  refine setAtK_in _ _ _ _ (by simp) ?_
  have e9 : (lo ++ [Ob.cells [.ref (.b 0) 0]] ++ [Ob.cells [.p (.int .i64 0)]]).set (lo ++ [Ob.cells [.ref (.b 0) 0]]).length (Ob.cells [.p (.int .i64 b.C.length)]) = lo ++ leapLo b.C.length := by
    rw [List.set_append_right _ _ (by simp)]
    simp [leapLo]
  (conv => whnf)
  rw [e9]
  refine atK_in _ _ _ (.cells [.ref (.b 0) 0]) (by simp [leapLo]) ?_
  (conv => whnf)
  refine CallVC.same (op_spec κ b o) rfl rfl rfl ?_
  have e8 : (lo ++ [Ob.cells [.ref (.b 0) 0]]).length = lo.length + 1 := by simp
  rw [← e8] at k
  (conv => whnf)
  exact k

set_option maxHeartbeats 2000000 in
theorem expr_spec (κ : Int) (e : Ex) : ∀ b : Bs, Shaped e → (b.T.length : Int) + ecnt e ≤ 1000000 → b.C.length ≤ 32769 → Meth Try.prog 58 [.ref (.b 0) 0, .p (enc e)] (bos κ b) (.tup []) (bos κ (exB e b)) := by
  induction e using Ex.ind with
  | h o t xs ih =>
    intro b hs hT hC
    refine Meth.of f58_ok fun rest => ?_
    have hin := instrs_spec
    rcases hs.args with ⟨h0, rfl⟩ | ⟨h0, a, rfl, ha⟩ | ⟨h0, a, c, rfl, ha, hc⟩
    · have hT : b.T.length ≤ 1000000 := by simp only [ecnt, ecnts] at hT; omega
      have n1 := fun o => named_spec κ b o t hT
      have n2 := op_spec κ b
      rcases arity0 h0 with rfl | rfl | rfl | rfl | rfl | rfl
      all_goals
        repeat' ((conv => whnf); first | refine splitB_t rfl ?_ | refine splitB_f rfl ?_ | refine CallVC.same (n1 _) rfl rfl rfl ?_ | refine CallVC.same (n2 _) rfl rfl rfl ?_)
        exact ⟨rfl, rfl⟩
    · obtain ⟨hr, hg, _⟩ := ins_range (.inl h0)
      have had := exB_adds a ha b
      have iha := ih a (by simp) b ha (by simp only [ecnt, ecnts] at hT; omega) hC
      have n2 := op_spec κ (exB a b)
      have hdef : exB (.mk o t [a]) b = putB ⟨insOf o, 0, 0⟩ (exB a b) := rfl
      rw [hdef]
      obtain ⟨o', t', xs'⟩ := a
      rcases arity1 h0 with rfl | rfl | rfl | rfl | rfl
      all_goals
        repeat' ((conv => whnf); first | refine splitB_t rfl ?_ | refine splitB_f rfl ?_ | refine CallVC.same iha rfl rfl rfl ?_ | refine CallD.pureF hin rfl ?_ | (intro R hR; refine hR _ _ _ ?_) | refine ⟨rfl, enc (.mk o' t' xs'), ⟨by omega, rfl⟩, ?_⟩ | refine hR _ _ _ ?_ | refine ⟨hr, _, hg, ?_⟩ | refine CallE.mk ⟨_, _, _, CallVC.same (n2 _) rfl rfl rfl ⟨rfl, rfl, rfl⟩, ?_⟩ | exact ⟨rfl, rfl⟩)
    · obtain ⟨hr, hg, _⟩ := ins_range (.inr h0)
      have had := exB_adds a ha b
      have hec := ecnts_pos.1 c
      have hea := ecnts_pos.1 a
      have hT : (b.T.length : Int) + ecnt a + ecnt c ≤ 1000000 := by simp only [ecnt, ecnts] at hT; omega
      have iha := ih a (by simp) b ha (by omega) hC
      have n2 := op_spec κ (exB a b)
      have hC1 := had.lim hC
      have hT1 := had.T
      by_cases hlog : o = 23 ∨ o = 24
      · have had2 := putB_adds ⟨insOf o, 0, 0⟩ (exB a b)
        have hC2 := had2.lim hC1.1
        have hT2 := had2.T
        have ihc := ih c (by simp) (putB ⟨insOf o, 0, 0⟩ (exB a b)) hc (by omega) hC2.1
        have hC3 := (exB_adds c hc (putB ⟨insOf o, 0, 0⟩ (exB a b))).lim hC2.1
        have hdef : exB (.mk o t [a, c]) b = landB (exB a b).C.length (exB c (putB ⟨insOf o, 0, 0⟩ (exB a b))) := by rw [exB, if_pos hlog]
        rw [hdef]
        have hcell : ∀ x : Ob, [x, .cells [.ref (.b 0) 0], .cells [.p (.int .i64 (exB a b).C.length)]][1]? = some (.cells [.ref (.b 0) 0]) := fun x => rfl
        have hcell2 : ∀ x : Ob, [x, .cells [.ref (.b 0) 0], .cells [.p (.int .i64 (exB a b).C.length)]][1 + 1]? = some (.cells [.p (.int .i64 (exB a b).C.length)]) := fun x => rfl
        obtain ⟨o', t', xs'⟩ := a
        obtain ⟨o2, t2, xs2⟩ := c
        rcases hlog with rfl | rfl
        all_goals
          repeat' ((conv => whnf); first | refine splitB_t rfl ?_ | refine splitB_f rfl ?_ | refine CallVC.same iha rfl rfl rfl ?_ | refine CallD.pureF hin rfl ?_ | refine ⟨rfl, enc (.mk o' t' xs'), ⟨by omega, rfl⟩, ?_⟩ | refine ⟨hr, _, hg, ?_⟩)
          (conv => whnf)
          refine CallE.mk ⟨_, _, _, leap_VC κ _ _ _ rest _ ⟨rfl, rfl, rfl⟩, ?_⟩
          repeat' ((conv => whnf); first | refine ⟨rfl, enc (.mk o2 t2 xs2), ⟨by omega, rfl⟩, ?_⟩ | refine CallVC.same ihc rfl rfl rfl ?_ | refine ⟨rfl, land_spec κ _ _ _ rest _ _ rfl rfl hC3.2 hC3.1 ?_⟩ | exact ⟨rfl, rfl⟩)
      · have ihc := ih c (by simp) (exB a b) hc (by omega) hC1.1
        have n3 := op_spec κ (exB c (exB a b))
        have hdef : exB (.mk o t [a, c]) b = putB ⟨insOf o, 0, 0⟩ (exB c (exB a b)) := by rw [exB, if_neg hlog]
        rw [hdef]
        obtain ⟨o', t', xs'⟩ := a
        obtain ⟨o2, t2, xs2⟩ := c
        rcases arity2 h0 with rfl | rfl | rfl | rfl | rfl | rfl | rfl | rfl | rfl | rfl | rfl | rfl | rfl | rfl | rfl | rfl
        all_goals first | (exfalso; omega) | skip
        all_goals
          repeat' ((conv => whnf); first | refine splitB_t rfl ?_ | refine splitB_f rfl ?_ | refine CallVC.same iha rfl rfl rfl ?_ | refine CallVC.same ihc rfl rfl rfl ?_ | refine CallD.pureF hin rfl ?_ | (intro R hR; refine hR _ _ _ ?_) | refine ⟨rfl, enc (.mk o' t' xs'), ⟨by omega, rfl⟩, ?_⟩ | refine ⟨rfl, enc (.mk o2 t2 xs2), ⟨by decide, rfl⟩, ?_⟩ | refine hR _ _ _ ?_ | refine ⟨hr, _, hg, ?_⟩ | refine CallE.mk ⟨_, _, _, CallVC.same (n3 _) rfl rfl rfl ⟨rfl, rfl, rfl⟩, ?_⟩ | exact ⟨rfl, rfl⟩)

end Go.Proofs.Ythmlninecfjjgaa.AD

namespace Go.Proofs.Ythmlninecfjjgaa.AD
open Go.Proofs
set_option linter.unusedVariables false
set_option linter.unusedSimpArgs false
set_option maxRecDepth 100000

/-- Behind the test. -/
def tstB (t : Ex) (b : Bs) : Bs := putB ⟨28, 0, 0⟩ (exB t (putB ⟨29, 0, 0⟩ b))
/-- Behind what is done. -/
def endB (n m : Nat) (b : Bs) : Bs := landB n (putB ⟨30, 0, 0⟩ (landB m b))
mutual
def clB : Cl → Bs → Bs
  | .mk k t v l, b => endB b.C.length (exB t (putB ⟨29, 0, 0⟩ b)).C.length
      (if k = 1 then putB ⟨32, 0, 0⟩ (tstB t b) else if k = 2 then putB ⟨31, 0, 0⟩ (exB v (tstB t b)) else if k = 3 then clsB l (tstB t b) else tstB t b)
def clsB : List Cl → Bs → Bs
  | [], b => b
  | c :: r, b => clsB r (clB c b)
end

theorem ccnt_pos : (∀ c, 1 ≤ ccnt c) ∧ ∀ l, 0 ≤ ccnts l := by
  have main : ∀ l : List Cl, (∀ a, a ∈ l → 1 ≤ ccnt a) → 0 ≤ ccnts l := by
    intro l
    induction l with
    | nil => intro _; simp [ccnts]
    | cons a r ihr => intro h; have := h a (by simp); have := ihr (fun c hc => h c (by simp [hc])); simp only [ccnts]; omega
  have one : ∀ c, 1 ≤ ccnt c := by
    intro c
    induction c using Cl.ind with
    | h k t v b ih => have := main b ih; have := ecnts_pos.1 t; have := ecnts_pos.1 v; simp only [ccnt]; omega
  exact ⟨one, fun l => main l fun a _ => one a⟩

theorem tstB_adds {t : Ex} (h : Shaped t) (b : Bs) : Adds b (tstB t b) (ecnt t) := (((putB_adds ⟨29, 0, 0⟩ b).trans (exB_adds t h _)).trans (putB_adds ⟨28, 0, 0⟩ _)).more (by omega)
theorem endB_adds (n m : Nat) (b : Bs) : Adds b (endB n m b) 0 := by
  have h := putB_len ⟨30, 0, 0⟩ (landB m b)
  rw [landB_len] at h
  exact ⟨by rw [endB, landB_T, putB_T, landB_T]; omega, by rw [endB, landB_len]; exact h.1, fun e => by rw [endB, landB_len]; exact h.2 e⟩

theorem clB_adds : (∀ c, checkC c = true → ∀ b, Adds b (clB c b) (ccnt c)) ∧ ∀ l, checkL l = true → ∀ b, (clsB l b).T.length ≤ b.T.length + ccnts l ∧ b.C.length ≤ (clsB l b).C.length ∧ (b.C.length ≤ 32769 → (clsB l b).C.length ≤ 32769) := by
  have main : ∀ l : List Cl, (∀ c, c ∈ l → checkC c = true → ∀ b, Adds b (clB c b) (ccnt c)) → checkL l = true → ∀ b, (clsB l b).T.length ≤ b.T.length + ccnts l ∧ b.C.length ≤ (clsB l b).C.length ∧ (b.C.length ≤ 32769 → (clsB l b).C.length ≤ 32769) := by
    intro l
    induction l with
    | nil => intro _ _ b; simp [clsB, ccnts]
    | cons c r ih =>
      intro h hc b
      simp only [checkL, Bool.and_eq_true] at hc
      have h1 := h c (by simp) hc.1 b
      obtain ⟨g1, g2, g3⟩ := ih (fun d hd => h d (by simp [hd])) hc.2 (clB c b)
      have := h1.T
      have := h1.up
      simp only [clsB, ccnts]
      exact ⟨by omega, by omega, fun e => g3 (h1.lim e).1⟩
  have one : ∀ c, checkC c = true → ∀ b, Adds b (clB c b) (ccnt c) := by
    intro c
    induction c using Cl.ind with
    | h k t v l ih =>
      intro hc b
      obtain ⟨s1, s2, s3⟩ := checkC_parts hc
      have h1 := tstB_adds s1 b
      have hv := ecnts_pos.1 v
      have hl := ccnt_pos.2 l
      simp only [clB]
      split
      · exact ((h1.trans (putB_adds _ _)).trans (endB_adds _ _ _)).more (by simp only [ccnt]; omega)
      · split
        · rename_i h2
          exact (((h1.trans (exB_adds v (s2 h2) _)).trans (putB_adds _ _)).trans (endB_adds _ _ _)).more (by simp only [ccnt]; omega)
        · split
          · obtain ⟨g1, g2, g3⟩ := main l ih s3 (tstB t b)
            have hT := h1.T
            have hup := h1.up
            have h9 : Adds b (clsB l (tstB t b)) (ecnt t + ccnts l) := ⟨by omega, by omega, fun e => by have := h1.lim e; exact ⟨g3 this.1, by omega⟩⟩
            exact (h9.trans (endB_adds _ _ _)).more (by simp only [ccnt]; omega)
          · exact (h1.trans (endB_adds _ _ _)).more (by simp only [ccnt]; omega)
  exact ⟨one, fun l => main l fun c _ => one c⟩

set_option maxHeartbeats 4000000 in
theorem clause_spec (κ : Int) (c : Cl) : ∀ b : Bs, checkC c = true → FitsC c → (b.T.length : Int) + ccnt c ≤ 1000000 → b.C.length ≤ 32769 → Meth Try.prog 38 [.ref (.b 0) 0, .p (encC c)] (bos κ b) (.tup []) (bos κ (clB c b)) := by
  induction c using Cl.ind with
  | h k t v l ih =>
    intro b hck hfit hT hC
    cases hfit with
    | mk _ _ _ _ hk hft hfv hl hfl =>
    obtain ⟨s1, s2, s3⟩ := checkC_parts hck
    have he := encCs_len l
    have pt := ecnts_pos.1 t
    have pv := ecnts_pos.1 v
    have pl := ccnt_pos.2 l
    have hTT : (b.T.length : Int) + ecnt t + ecnt v + ccnts l ≤ 1000000 := by simp only [ccnt] at hT; omega
    have a1 := putB_adds ⟨29, 0, 0⟩ b
    have a2 := exB_adds t s1 (putB ⟨29, 0, 0⟩ b)
    have a3 := putB_adds ⟨28, 0, 0⟩ (exB t (putB ⟨29, 0, 0⟩ b))
    have u1 := a1.T
    have u2 := a2.T
    have u3 := a3.T
    have c1 := a1.lim hC
    have c2 := a2.lim c1.1
    have c3 := a3.lim c2.1
    have ht := expr_spec κ t (putB ⟨29, 0, 0⟩ b) s1 (by omega) c1.1
    have hT3 : ((tstB t b).T.length : Int) + ecnt v + ccnts l ≤ 1000000 := by rw [tstB]; omega
    have hC3 : (tstB t b).C.length ≤ 32769 ∧ 1 ≤ (tstB t b).C.length := c3
    have hv := fun hk2 => expr_spec κ v (tstB t b) (s2 hk2) (by omega) hC3.1
    have hv2 := fun hk2 => (exB_adds v (s2 hk2) (tstB t b)).lim hC3.1
    have hdef : clB (.mk k t v l) b = endB b.C.length (exB t (putB ⟨29, 0, 0⟩ b)).C.length (if k = 1 then putB ⟨32, 0, 0⟩ (tstB t b) else if k = 2 then putB ⟨31, 0, 0⟩ (exB v (tstB t b)) else if k = 3 then clsB l (tstB t b) else tstB t b) := rfl
    refine Meth.of f38_ok fun rest => ?_
    generalize hn : b.C.length = n at hdef
    generalize hm : (exB t (putB ⟨29, 0, 0⟩ b)).C.length = m at hdef
    obtain ⟨o, tt, xs⟩ := t
    obtain ⟨o2, t2, xs2⟩ := v
    let lo5 : List Ob := [.cells [.p (.int .u8 k), .p (.int .u8 o), .p (.str tt), .p (.list 3 (encs xs)), .p (.int .u8 o2), .p (.str t2), .p (.list 3 (encs xs2)), .p (.list 8 (encCs l))],
        .cells [.ref (.b 0) 0], .cells [.p (.int .i64 n)], .cells [.ref (.b 0) 0], .cells [.p (.int .i64 m)]]
    have last : ∀ b4 : Bs, 1 ≤ b4.C.length → b4.C.length ≤ 32769 → endB n m b4 = clB (.mk k (.mk o tt xs) (.mk o2 t2 xs2) l) b → W Try.prog f38.c35 [(0, .ref (.b 0) 0), (4, .clos (.func 86) [] [.ref (.l 1) 0, .ref (.l 2) 0]), (5, .clos (.func 86) [] [.ref (.l 3) 0, .ref (.l 4) 0])] (bos κ b4 ++ rest) lo5
        (endQ f38 fun r' H' => r' = .p (.tup []) ∧ H' = bos κ (clB (.mk k (.mk o tt xs) (.mk o2 t2 xs2) l) b) ++ rest) := by
      intro b4 h1 h2 h3
      have hp := op_spec κ (landB m b4) 30
      have hq := putB_len ⟨30, 0, 0⟩ (landB m b4)
      rw [landB_len] at hq
      (conv => whnf)
      refine ⟨rfl, land_spec κ b4 m _ rest 3 _ rfl rfl h1 h2 ?_⟩
      (conv => whnf)
      refine CallVC.same hp rfl rfl rfl ?_
      (conv => whnf)
      refine ⟨rfl, land_spec κ _ n _ rest 1 _ rfl rfl (hq.2 h2).2 (hq.2 h2).1 ?_⟩
      exact ⟨rfl, by rw [← h3]; rfl⟩
    (conv => whnf)
    refine leap_VC κ b 29 _ rest _ ?_
    (conv => whnf)
    refine CallVC.same ht rfl rfl rfl ?_
    (conv => whnf)
    refine leap_VC κ _ 28 _ rest _ ?_
    rw [hn, hm]
    (conv => whnf)
    refine splitB_eq (fun h1 => ?_) (fun h1 => ?_)
    · subst h1
      have hp := op_spec κ (tstB (.mk o tt xs) b) 32
      have hq := (putB_len ⟨32, 0, 0⟩ (tstB (.mk o tt xs) b)).2 hC3.1
      have q := last (putB ⟨32, 0, 0⟩ (tstB (.mk o tt xs) b)) hq.2 hq.1 (by rw [hdef]; rfl)
      (conv at q => whnf)
      (conv => whnf)
      refine CallVC.same hp rfl rfl rfl ?_
      (conv => whnf)
      exact q
    · (conv => whnf)
      refine splitB_eq (fun h2 => ?_) (fun h2 => ?_)
      · subst h2
        have hv3 := hv rfl
        have hp := op_spec κ (exB (.mk o2 t2 xs2) (tstB (.mk o tt xs) b)) 31
        have hq := (putB_len ⟨31, 0, 0⟩ (exB (.mk o2 t2 xs2) (tstB (.mk o tt xs) b))).2 (hv2 rfl).1
        have q := last (putB ⟨31, 0, 0⟩ (exB (.mk o2 t2 xs2) (tstB (.mk o tt xs) b))) hq.2 hq.1 (by rw [hdef]; rfl)
        (conv at q => whnf)
        (conv => whnf)
        refine CallVC.same hv3 rfl rfl rfl ?_
        (conv => whnf)
        refine CallVC.same hp rfl rfl rfl ?_
        (conv => whnf)
        exact q
      · (conv => whnf)
        have h3 : k = 3 := by
          have := (checkC_k k (.mk o tt xs) (.mk o2 t2 xs2) l).2.2.2
          by_cases h3 : k = 3
          · exact h3
          · rw [this (by omega)] at hck; cases hck
        refine splitB_t (beq_iff_eq.2 h3) ?_
        (conv => whnf)
        intro R hR
        have key : ∀ (r : List Cl) (i : Nat) (b4 : Bs), l.drop i = r → 1 ≤ b4.C.length → b4.C.length ≤ 32769 → (b4.T.length : Int) + ccnts r ≤ 1000000 → clsB r b4 = clsB l (tstB (.mk o tt xs) b) → R [(0, .ref (.b 0) 0), (4, .clos (.func 86) [] [.ref (.l 1) 0, .ref (.l 2) 0]), (5, .clos (.func 86) [] [.ref (.l 3) 0, .ref (.l 4) 0]), (33, .p (.list 8 (encCs l))), (34, .p (.int .i64 (encCs l).length)), (35, .p (.int .i64 i))] (bos κ b4 ++ rest) lo5 := by
          intro r
          induction r with
          | nil =>
            intro i b4 hd g1 g2 g3 hq
            have hl := drop_nil hd
            have q := last b4 g1 g2 (by rw [hdef, if_neg h1, if_neg h2, if_pos h3, ← hq]; rfl)
            (conv at q => whnf)
            refine hR _ _ _ ?_
            (conv => whnf)
            refine splitB_f (decide_eq_false (by omega)) ?_
            (conv => whnf)
            exact q
          | cons a r ihr =>
            intro i b4 hd g1 g2 g3 hq
            obtain ⟨hg, hd', hi⟩ := drop_cons hd
            have hmem := List.mem_of_getElem? hg
            have hca := checkL_mem l s3 a hmem
            have ha := clB_adds.1 a hca b4
            have hpr := ccnt_pos.2 r
            simp only [ccnts] at g3
            have haT := ha.T
            have haC := ha.lim g2
            have iha := ih a hmem b4 hca (hfl a hmem) (by omega) g2
            refine hR _ _ _ ?_
            (conv => whnf)
            refine splitB_t (decide_eq_true (by omega)) ?_
            (conv => whnf)
            obtain ⟨k', ⟨o', t', xs'⟩, ⟨o3, t3, xs3⟩, l'⟩ := a
            refine ⟨rfl, encC (.mk k' (.mk o' t' xs') (.mk o3 t3 xs3) l'), ⟨by omega, encCs_get hg⟩, ?_⟩
            (conv => whnf)
            refine CallVC.same iha rfl rfl rfl ?_
            (conv => whnf)
            rw [IntWalk.i64_in _ (by omega)]
            exact ihr (i + 1) _ hd' haC.2 haC.1 (by omega) hq
        exact key l 0 (tstB (.mk o tt xs) b) rfl hC3.2 hC3.1 (by omega) rfl

end Go.Proofs.Ythmlninecfjjgaa.AD

namespace Go.Proofs.Ythmlninecfjjgaa.AD
open Go.Proofs
set_option linter.unusedVariables false
set_option linter.unusedSimpArgs false
set_option maxRecDepth 100000

def ofTab : List (Int × Int) := [(3, 5), (4, 8), (6, 6), (8, 7), (9, 9), (10, 10), (11, 11), (12, 12), (13, 13), (14, 14), (15, 15), (16, 16), (17, 17), (18, 18), (19, 19), (20, 20), (21, 21), (22, 22), (23, 26), (24, 27), (25, 23)]
def ofFind (o : Int) : List (Int × Int) → Int
  | [] => 0
  | (a, b) :: r => if a = o then b else ofFind o r
theorem ofFind_eq {o : Int} (h : arityI o = 1 ∨ arityI o = 2) : ofFind o ofTab = insOf o := by
  rcases h with h | h
  · rcases arity1 h with rfl | rfl | rfl | rfl | rfl <;> rfl
  · rcases arity2 h with rfl | rfl | rfl | rfl | rfl | rfl | rfl | rfl | rfl | rfl | rfl | rfl | rfl | rfl | rfl | rfl <;> rfl

theorem Of_spec (o : Int) (h : arityI o = 1 ∨ arityI o = 2) : pureF Try.prog 85 [.p (.int .u8 o)] (.p (.int .u8 (insOf o))) := by
  refine pureF_of f85_ok fun H => ?_
  have hq := ofFind_eq h
  (conv => whnf)
  intro R hR
  have key : ∀ (rest : List (Int × Int)) (i : Nat), ofTab.drop i = rest → ofFind o rest = insOf o → R [(0, .p (.int .u8 o)), (3, .p (.list 1 (ofTab.map fun p => .int .u8 p.1))), (4, .p (.list 1 (ofTab.map fun p => .int .u8 p.2))), (5, .p (.int .i64 i))] H [] := by
    intro rest
    induction rest with
    | nil =>
      intro i hd hf
      exfalso
      have := (ins_range h).2.2.1
      rw [← hf] at this
      simp [ofFind] at this
    | cons p r ih =>
      intro i hd hf
      obtain ⟨hg, hd', hi⟩ := drop_cons hd
      obtain ⟨x, y⟩ := p
      have hl : ofTab.length = 21 := rfl
      have hg1 : (ofTab.map fun p => PV.int .u8 p.1)[i]? = some (.int .u8 x) := by rw [List.getElem?_map, hg]; rfl
      have hg2 : (ofTab.map fun p => PV.int .u8 p.2)[i]? = some (.int .u8 y) := by rw [List.getElem?_map, hg]; rfl
      refine hR _ _ _ ?_
      (conv => whnf)
      refine splitB_t (decide_eq_true (by rw [List.length_map, hl]; omega)) ?_
      (conv => whnf)
      refine ⟨rfl, _, ⟨by omega, hg1⟩, ?_⟩
      (conv => whnf)
      simp only [ofFind] at hf
      refine splitB_eq (fun e => ?_) (fun e => ?_)
      · rw [if_pos e] at hf
        (conv => whnf)
        refine ⟨rfl, _, ⟨by omega, hg2⟩, ?_⟩
        (conv => whnf)
        exact ⟨by rw [hf], rfl⟩
      · rw [if_neg e] at hf
        (conv => whnf)
        rw [IntWalk.i64_in _ (by omega)]
        exact ih (i + 1) hd' hf
  exact key ofTab 0 rfl hq

def hereW (n : Int) (w : Ws) : Ws := if w.o = true then w else { w with C := setA n.toNat w.C.length w.C }

theorem here_spec (κ : Int) (w : Ws) (n : Int) (h : w.o = false → 0 ≤ n ∧ n < w.C.length) : Meth Try.prog 56 [.ref (.b 0) 0, .p (.int .i64 n)] (wos κ w) (.tup []) (wos κ (hereW n w)) := by
  refine Meth.of f56_ok fun rest => ?_
  have hc := cP_len w.C
  (conv => whnf)
  refine splitB_intro (fun hov => ?_) (fun hov => ?_)
  · have hov : w.o = false := by simpa using hov
    obtain ⟨h0, h1⟩ := h hov
    have hx : w.C[n.toNat]? = some (w.C[n.toNat]'(by omega)) := List.getElem?_eq_getElem (by omega)
    have hne : cP w.C ≠ [] := fun e => by rw [e] at hc; simp at hc; omega
    have e : wos κ (hereW n w) = [.cells [.p (.int .u8 κ), .view (.b 1) w.T.length 1 w.T.length, .view (.b 2) w.C.length 3 w.C.length, .p (.int .i64 w.S), .p (.int .i64 w.h), .p (.bool w.o)],
        .buf w.T.length 1 (tP w.T), .buf w.C.length 3 ((cP w.C).set n.toNat (insP ⟨(w.C[n.toNat]'(by omega)).op, w.C.length, (w.C[n.toNat]'(by omega)).b⟩))] := by
      rw [hereW, if_neg (by rw [hov]; simp)]
      simp only [wos, setA_len]
      rw [setA_get hx, cP_set]
    rw [e]
    (conv => whnf)
    refine ⟨rfl, ?_⟩
    (conv => whnf)
    refine ⟨⟨rfl, h0, h1⟩, rfl, ?_⟩
    (conv => whnf)
    refine ⟨⟨rfl, hne⟩, ?_⟩
    (conv => whnf)
    refine ⟨⟨rfl, rfl⟩, insP _, cP_get hx, ?_⟩
    exact ⟨rfl, rfl⟩
  · have hov : w.o = true := by simpa using hov
    exact ⟨rfl, by rw [hereW, if_pos hov]⟩

/-- How much a piece of code adds. -/
structure AddsW (w w' : Ws) (n : Int) : Prop where
  T : (w'.T.length : Int) ≤ w.T.length + n
  up : w'.o = false → w.o = false ∧ w.C.length ≤ w'.C.length
  lim : w.C.length ≤ 32769 → w'.C.length ≤ 32769
theorem putW_adds (x : Ins) (w : Ws) : AddsW w (putW x w) 0 := by
  refine ⟨by rw [putW_T]; omega, ?_, ?_⟩
  · rw [putW]
    split
    · intro h; cases h
    · intro h; exact ⟨h, by simp⟩
  · rw [putW]
    split
    · exact fun h => h
    · intro h; simp; omega
theorem putW_not {x : Ins} {w : Ws} (h : (putW x w).o = false) : putN w = w.C.length ∧ (putW x w).C.length = w.C.length + 1 ∧ w.o = false := by
  rw [putW] at h ⊢
  rw [putN]
  split at h
  · cases h
  · rename_i h2
    rw [if_neg h2, if_neg h2]
    exact ⟨rfl, by simp, h⟩
theorem AddsW.trans {a b c : Ws} {n m : Int} (h : AddsW a b n) (k : AddsW b c m) : AddsW a c (n + m) := ⟨by have := h.T; have := k.T; omega, fun e => by have h1 := k.up e; have h2 := h.up h1.1; exact ⟨h2.1, by omega⟩, fun e => k.lim (h.lim e)⟩
theorem hereW_o (k : Int) (w : Ws) : (hereW k w).o = w.o := by rw [hereW]; split <;> rfl
theorem hereW_T (k : Int) (w : Ws) : (hereW k w).T = w.T := by rw [hereW]; split <;> rfl
theorem hereW_len (k : Int) (w : Ws) : (hereW k w).C.length = w.C.length := by rw [hereW]; split; rfl; exact setA_len _ _ _
theorem AddsW.here {a b : Ws} {n : Int} (h : AddsW a b n) (k : Int) : AddsW a (hereW k b) n := ⟨by rw [hereW_T]; exact h.T, by rw [hereW_o, hereW_len]; exact h.up, by rw [hereW_len]; exact h.lim⟩
theorem AddsW.more {a b : Ws} {n m : Int} (h : AddsW a b n) (k : n ≤ m) : AddsW a b m := ⟨by have := h.T; omega, h.up, h.lim⟩
theorem AddsW.refl (w : Ws) : AddsW w w 0 := ⟨by omega, fun h => ⟨h, Nat.le_refl _⟩, fun h => h⟩
theorem namedW_adds (o : Int) (s : ByteArray) (w : Ws) : AddsW w (namedW o s w) 1 := by
  rw [namedW]
  split
  · exact (AddsW.refl w).more (by omega)
  · split
    · exact (putW_adds _ _).more (by omega)
    · split
      · exact ⟨by simp only []; omega, fun h => (by cases h), fun h => h⟩
      · have h := putW_adds ⟨o, w.T.length, 0⟩ { w with T := w.T ++ [s] }
        exact ⟨by have := h.T; simp at this ⊢; omega, h.up, h.lim⟩

def exW : Ex → Ws → Ws
  | .mk o t [], w => if w.o = true then w else if o = 1 then namedW 1 t w else if o = 2 then namedW 4 t w else if o = 5 then namedW 2 t w else if o = 7 then namedW 3 t w else if o = 26 then putW ⟨24, 0, 0⟩ w else if o = 27 then putW ⟨25, 0, 0⟩ w else w
  | .mk o t [a], w => if w.o = true then w else putW ⟨insOf o, 0, 0⟩ (exW a w)
  | .mk o t [a, c], w => if w.o = true then w else if o = 23 ∨ o = 24 then hereW (putN (exW a w)) (exW c (putW ⟨insOf o, 0, 0⟩ (exW a w))) else putW ⟨insOf o, 0, 0⟩ (exW c (exW a w))
  | .mk _ _ (_ :: _ :: _ :: _), w => w

theorem exW_over (e : Ex) (w : Ws) (h : w.o = true) : exW e w = w := by
  obtain ⟨o, t, xs⟩ := e
  match xs with
  | [] => rw [exW, if_pos h]
  | [a] => rw [exW, if_pos h]
  | [a, c] => rw [exW, if_pos h]
  | _ :: _ :: _ :: _ => rfl

theorem exW_adds (e : Ex) : Shaped e → ∀ w, AddsW w (exW e w) (ecnt e) := by
  induction e using Ex.ind with
  | h o t xs ih =>
    intro hs w
    have h1 := ecnts_pos.1 (.mk o t xs)
    by_cases hov : w.o = true
    · rw [exW_over _ _ hov]; exact (AddsW.refl w).more (by omega)
    · rcases hs.args with ⟨h0, rfl⟩ | ⟨h0, a, rfl, ha⟩ | ⟨h0, a, c, rfl, ha, hc⟩
      · simp only [exW, if_neg hov]
        have e1 : (ecnt (.mk o t [])) = 1 := rfl
        rw [e1]
        rcases arity0 h0 with rfl | rfl | rfl | rfl | rfl | rfl <;> simp only [Int.reduceEq, if_true, if_false] <;> first | exact namedW_adds _ _ _ | exact (putW_adds _ _).more (by omega)
      · simp only [exW, if_neg hov]
        exact ((ih a (by simp) ha w).trans (putW_adds _ _)).more (by simp only [ecnt, ecnts]; omega)
      · have h1 := ih a (by simp) ha w
        simp only [exW, if_neg hov]
        split
        · exact (((h1.trans (putW_adds ⟨insOf o, 0, 0⟩ _)).trans (ih c (by simp) hc _)).here _).more (by simp only [ecnt, ecnts]; omega)
        · exact ((h1.trans (ih c (by simp) hc _)).trans (putW_adds _ _)).more (by simp only [ecnt, ecnts]; omega)

theorem log_at {x : Ins} {w w' : Ws} {n : Int} (h : AddsW (putW x w) w' n) : w'.o = false → 0 ≤ putN w ∧ putN w < w'.C.length := fun e => by
  have h1 := h.up e
  have h2 := putW_not h1.1
  omega

set_option maxHeartbeats 4000000 in
theorem refexpr_spec (κ : Int) (e : Ex) : ∀ w : Ws, Shaped e → (w.T.length : Int) + ecnt e ≤ 1000000 → Meth Try.prog 55 [.ref (.b 0) 0, .p (enc e)] (wos κ w) (.tup []) (wos κ (exW e w)) := by
  induction e using Ex.ind with
  | h o t xs ih =>
    intro w hs hT
    refine Meth.of f55_ok fun rest => ?_
    rcases Bool.eq_false_or_eq_true w.o with hov | hov
    · rw [exW_over _ _ hov]
      (conv => whnf)
      refine splitB_t hov ?_
      exact ⟨rfl, rfl⟩
    · have hno : ¬ w.o = true := by rw [hov]; simp
      rcases hs.args with ⟨h0, rfl⟩ | ⟨h0, a, rfl, ha⟩ | ⟨h0, a, c, rfl, ha, hc⟩
      · have hT : w.T.length ≤ 1000000 := by simp only [ecnt, ecnts] at hT; omega
        have n1 := fun o h1 h2 => refnamed_spec κ w o t h1 h2 hT
        have n2 := fun x h1 h2 => refput_spec κ w x h1 h2
        simp only [exW, if_neg hno]
        (conv => whnf)
        refine splitB_f hov ?_
        rcases arity0 h0 with rfl | rfl | rfl | rfl | rfl | rfl
        all_goals
          repeat' ((conv => whnf); first | refine splitB_t rfl ?_ | refine splitB_f rfl ?_ | refine CallVC.same (n1 _ (by decide) (by decide)) rfl rfl rfl ?_ | refine CallVC.same (n2 ⟨24, 0, 0⟩ (by decide) (by decide)) rfl rfl rfl ?_ | refine CallVC.same (n2 ⟨25, 0, 0⟩ (by decide) (by decide)) rfl rfl rfl ?_ | exact ⟨rfl, rfl⟩)
      · have hr := (ins_range (.inl h0)).2.2
        have hOf := Of_spec o (.inl h0)
        have iha := ih a (by simp) w ha (by simp only [ecnt, ecnts] at hT; omega)
        have n2 := refput_spec κ (exW a w) ⟨insOf o, 0, 0⟩ hr.1 hr.2
        simp only [exW, if_neg hno]
        obtain ⟨o', t', xs'⟩ := a
        (conv => whnf)
        refine splitB_f hov ?_
        rcases arity1 h0 with rfl | rfl | rfl | rfl | rfl
        all_goals
          repeat' ((conv => whnf); first | refine splitB_t rfl ?_ | refine splitB_f rfl ?_ | refine CallVC.same iha rfl rfl rfl ?_ | refine CallVC.pureF hOf rfl ?_ | refine CallVC.same n2 rfl rfl rfl ?_ | (intro R hR; refine hR _ _ _ ?_) | refine ⟨rfl, enc (.mk o' t' xs'), ⟨by omega, rfl⟩, ?_⟩ | refine hR _ _ _ ?_ | exact ⟨rfl, rfl⟩)
      · have hr := (ins_range (.inr h0)).2.2
        have hOf := Of_spec o (.inr h0)
        have hec := ecnts_pos.1 c
        have hea := ecnts_pos.1 a
        have hT : (w.T.length : Int) + ecnt a + ecnt c ≤ 1000000 := by simp only [ecnt, ecnts] at hT; omega
        have had := exW_adds a ha w
        have iha := ih a (by simp) w ha (by omega)
        have n2 := refput_spec κ (exW a w) ⟨insOf o, 0, 0⟩ hr.1 hr.2
        have hT1 := had.T
        by_cases hlog : o = 23 ∨ o = 24
        · have hT2 := (putW_adds ⟨insOf o, 0, 0⟩ (exW a w)).T
          have ihc := ih c (by simp) (putW ⟨insOf o, 0, 0⟩ (exW a w)) hc (by omega)
          have hh := here_spec κ (exW c (putW ⟨insOf o, 0, 0⟩ (exW a w))) (putN (exW a w)) (log_at (exW_adds c hc _))
          simp only [exW, if_neg hno, if_pos hlog]
          obtain ⟨o', t', xs'⟩ := a
          obtain ⟨o2, t2, xs2⟩ := c
          (conv => whnf)
          refine splitB_f hov ?_
          rcases hlog with rfl | rfl
          all_goals
            repeat' ((conv => whnf); first | refine splitB_t rfl ?_ | refine splitB_f rfl ?_ | refine CallVC.same iha rfl rfl rfl ?_ | refine CallVC.same ihc rfl rfl rfl ?_ | refine CallVC.pureF hOf rfl ?_ | refine CallVC.same n2 rfl rfl rfl ?_ | refine CallVC.same hh rfl rfl rfl ?_ | refine ⟨rfl, enc (.mk o' t' xs'), ⟨by decide, rfl⟩, ?_⟩ | refine ⟨rfl, enc (.mk o2 t2 xs2), ⟨by decide, rfl⟩, ?_⟩ | exact ⟨rfl, rfl⟩)
        · have ihc := ih c (by simp) (exW a w) hc (by omega)
          have n3 := refput_spec κ (exW c (exW a w)) ⟨insOf o, 0, 0⟩ hr.1 hr.2
          simp only [exW, if_neg hno, if_neg hlog]
          obtain ⟨o', t', xs'⟩ := a
          obtain ⟨o2, t2, xs2⟩ := c
          (conv => whnf)
          refine splitB_f hov ?_
          rcases arity2 h0 with rfl | rfl | rfl | rfl | rfl | rfl | rfl | rfl | rfl | rfl | rfl | rfl | rfl | rfl | rfl | rfl
          all_goals first | (exfalso; omega) | skip
          all_goals
            repeat' ((conv => whnf); first | refine splitB_t rfl ?_ | refine splitB_f rfl ?_ | refine CallVC.same iha rfl rfl rfl ?_ | refine CallVC.same ihc rfl rfl rfl ?_ | refine CallVC.pureF hOf rfl ?_ | refine CallVC.same n3 rfl rfl rfl ?_ | (intro R hR; refine hR _ _ _ ?_) | refine ⟨rfl, enc (.mk o' t' xs'), ⟨by decide, rfl⟩, ?_⟩ | refine ⟨rfl, enc (.mk o2 t2 xs2), ⟨by decide, rfl⟩, ?_⟩ | refine hR _ _ _ ?_ | exact ⟨rfl, rfl⟩)

end Go.Proofs.Ythmlninecfjjgaa.AD

namespace Go.Proofs.Ythmlninecfjjgaa.AD
open Go.Proofs
set_option linter.unusedVariables false
set_option linter.unusedSimpArgs false
set_option maxRecDepth 100000

def tstW (t : Ex) (w : Ws) : Ws := putW ⟨28, 0, 0⟩ (exW t (putW ⟨29, 0, 0⟩ w))
def endW (n m : Int) (w : Ws) : Ws := hereW n (putW ⟨30, 0, 0⟩ (hereW m w))
mutual
def clW : Cl → Ws → Ws
  | .mk k t v l, w => endW (putN w) (putN (exW t (putW ⟨29, 0, 0⟩ w)))
      (if k = 1 then putW ⟨32, 0, 0⟩ (tstW t w) else if k = 2 then putW ⟨31, 0, 0⟩ (exW v (tstW t w)) else if k = 3 then clsW l (tstW t w) else tstW t w)
def clsW : List Cl → Ws → Ws
  | [], w => w
  | c :: r, w => if w.o = true then w else clsW r (clW c w)
end

theorem tstW_adds {t : Ex} (h : Shaped t) (w : Ws) : AddsW w (tstW t w) (ecnt t) := (((putW_adds ⟨29, 0, 0⟩ w).trans (exW_adds t h _)).trans (putW_adds ⟨28, 0, 0⟩ _)).more (by omega)
theorem endW_adds (n m : Int) (w : Ws) : AddsW w (endW n m w) 0 := ((((AddsW.refl w).here m).trans (putW_adds ⟨30, 0, 0⟩ _)).here n).more (by omega)

theorem clW_adds : (∀ c, checkC c = true → ∀ w, AddsW w (clW c w) (ccnt c)) ∧ ∀ l, checkL l = true → ∀ w, AddsW w (clsW l w) (ccnts l) := by
  have main : ∀ l : List Cl, (∀ c, c ∈ l → checkC c = true → ∀ w, AddsW w (clW c w) (ccnt c)) → checkL l = true → ∀ w, AddsW w (clsW l w) (ccnts l) := by
    intro l
    induction l with
    | nil => intro _ _ w; exact (AddsW.refl w).more (by simp [ccnts])
    | cons c r ih =>
      intro h hc w
      simp only [checkL, Bool.and_eq_true] at hc
      have h1 := h c (by simp) hc.1 w
      have h2 := ih (fun d hd => h d (by simp [hd])) hc.2 (clW c w)
      have p1 := ccnt_pos.1 c
      have p2 := ccnt_pos.2 r
      simp only [clsW, ccnts]
      split
      · exact (AddsW.refl w).more (by omega)
      · exact h1.trans h2
  have one : ∀ c, checkC c = true → ∀ w, AddsW w (clW c w) (ccnt c) := by
    intro c
    induction c using Cl.ind with
    | h k t v l ih =>
      intro hc w
      obtain ⟨s1, s2, s3⟩ := checkC_parts hc
      have h1 := tstW_adds s1 w
      have hv := ecnts_pos.1 v
      have hl := ccnt_pos.2 l
      simp only [clW]
      split
      · exact ((h1.trans (putW_adds _ _)).trans (endW_adds _ _ _)).more (by simp only [ccnt]; omega)
      · split
        · rename_i h2
          exact (((h1.trans (exW_adds v (s2 h2) _)).trans (putW_adds _ _)).trans (endW_adds _ _ _)).more (by simp only [ccnt]; omega)
        · split
          · exact ((h1.trans (main l ih s3 _)).trans (endW_adds _ _ _)).more (by simp only [ccnt]; omega)
          · exact (h1.trans (endW_adds _ _ _)).more (by simp only [ccnt]; omega)
  exact ⟨one, fun l => main l fun c _ => one c⟩

theorem k_of {k : Int} {t v : Ex} {l : List Cl} (h : checkC (.mk k t v l) = true) : k = 1 ∨ k = 2 ∨ k = 3 := by
  have := (checkC_k k t v l).2.2.2
  by_cases h3 : k < 1 ∨ k > 3
  · rw [this h3] at h; cases h
  · omega

set_option maxHeartbeats 4000000 in
theorem refclauses_ind (κ : Int) (l : List Cl) (hl : (l.length : Int) ≤ 9223372036854775807) (hf : ∀ c, c ∈ l → FitsC c) (hck : checkL l = true)
    (ih : ∀ k t v b, Cl.mk k t v b ∈ l → ∀ w : Ws, (w.T.length : Int) + ccnts b ≤ 1000000 → Meth Try.prog 37 [.ref (.b 0) 0, .p (.list 8 (encCs b))] (wos κ w) (.tup []) (wos κ (clsW b w)))
    (w : Ws) (hT : (w.T.length : Int) + ccnts l ≤ 1000000) : Meth Try.prog 37 [.ref (.b 0) 0, .p (.list 8 (encCs l))] (wos κ w) (.tup []) (wos κ (clsW l w)) := by
  have he := encCs_len l
  refine Meth.of f37_ok fun rest => ?_
  (conv => whnf)
  intro R hR
  have key : ∀ (r : List Cl) (i : Nat) (w1 : Ws), l.drop i = r → (w1.T.length : Int) + ccnts r ≤ 1000000 → clsW r w1 = clsW l w → R [(0, .ref (.b 0) 0), (1, .p (.list 8 (encCs l))), (4, .p (.int .i64 i))] (wos κ w1 ++ rest) [] := by
    intro r
    induction r with
    | nil =>
      intro i w1 hd g3 hq
      have hl := drop_nil hd
      refine hR _ _ _ ?_
      (conv => whnf)
      refine splitB_f (decide_eq_false (by omega)) ?_
      (conv => whnf)
      refine splitB_f rfl ?_
      exact ⟨rfl, by rw [← hq]; rfl⟩
    | cons a r ihr =>
      intro i w1 hd g3 hq
      obtain ⟨hg, hd', hi⟩ := drop_cons hd
      have hmem := List.mem_of_getElem? hg
      have hca := checkL_mem l hck a hmem
      have hpr := ccnt_pos.2 r
      have ha := clW_adds.1 a hca w1
      have haT := ha.T
      simp only [ccnts] at g3
      refine hR _ _ _ ?_
      (conv => whnf)
      refine splitB_t (decide_eq_true (by omega)) ?_
      rcases Bool.eq_false_or_eq_true w1.o with hov | hov
      · (conv => whnf)
        refine splitB_f (by rw [hov]; rfl) ?_
        exact ⟨rfl, by rw [← hq]; simp only [clsW, if_pos hov]⟩
      · have hno : ¬ w1.o = true := by rw [hov]; simp
        have hq : clsW r (clW a w1) = clsW l w := by rw [← hq]; simp only [clsW, if_neg hno]
        have hnext := ihr (i + 1) (clW a w1) hd' (by omega) hq
        obtain ⟨k, t, v, b⟩ := a
        obtain ⟨s1, s2, s3⟩ := checkC_parts hca
        have ihb := ih k t v b hmem
        have pt := ecnts_pos.1 t
        have pv := ecnts_pos.1 v
        have pb := ccnt_pos.2 b
        have g4 : (w1.T.length : Int) + ecnt t + ecnt v + ccnts b ≤ 1000000 := by simp only [ccnt] at g3; omega
        have u1 := (putW_adds ⟨29, 0, 0⟩ w1).T
        have u2 := (exW_adds t s1 (putW ⟨29, 0, 0⟩ w1)).T
        have u3 := (putW_adds ⟨28, 0, 0⟩ (exW t (putW ⟨29, 0, 0⟩ w1))).T
        have u4 : ((tstW t w1).T.length : Int) + ecnt v + ccnts b ≤ 1000000 := by rw [tstW]; omega
        have p1 := refput_spec κ w1 ⟨29, 0, 0⟩ (by decide) (by decide)
        have p2 := refexpr_spec κ t (putW ⟨29, 0, 0⟩ w1) s1 (by omega)
        have p3 := refput_spec κ (exW t (putW ⟨29, 0, 0⟩ w1)) ⟨28, 0, 0⟩ (by decide) (by decide)
        have tA := tstW_adds s1 w1
        have hm0 := exW_adds t s1 (putW ⟨29, 0, 0⟩ w1)
        have fin : ∀ (w4 : Ws) (n : Int), AddsW (tstW t w1) w4 n → Meth Try.prog 56 [.ref (.b 0) 0, .p (.int .i64 (putN (exW t (putW ⟨29, 0, 0⟩ w1))))] (wos κ w4) (.tup []) (wos κ (hereW (putN (exW t (putW ⟨29, 0, 0⟩ w1))) w4)) ∧
            Meth Try.prog 56 [.ref (.b 0) 0, .p (.int .i64 (putN w1))] (wos κ (putW ⟨30, 0, 0⟩ (hereW (putN (exW t (putW ⟨29, 0, 0⟩ w1))) w4))) (.tup []) (wos κ (endW (putN w1) (putN (exW t (putW ⟨29, 0, 0⟩ w1))) w4)) := by
          intro w4 n h4
          refine ⟨here_spec κ w4 _ (log_at h4), here_spec κ _ _ ?_⟩
          have h5 : AddsW (putW ⟨29, 0, 0⟩ w1) (tstW t w1) (ecnt t) := ((exW_adds t s1 _).trans (putW_adds ⟨28, 0, 0⟩ _)).more (by omega)
          exact log_at ((h5.trans (h4.here _)).trans (putW_adds ⟨30, 0, 0⟩ _))
        have hdef : clW (.mk k t v b) w1 = endW (putN w1) (putN (exW t (putW ⟨29, 0, 0⟩ w1))) (if k = 1 then putW ⟨32, 0, 0⟩ (tstW t w1) else if k = 2 then putW ⟨31, 0, 0⟩ (exW v (tstW t w1)) else if k = 3 then clsW b (tstW t w1) else tstW t w1) := rfl
        obtain ⟨o, tt, xs⟩ := t
        obtain ⟨o2, t2, xs2⟩ := v
        (conv => whnf)
        refine splitB_t (by rw [hov]; rfl) ?_
        (conv => whnf)
        refine ⟨rfl, encC (.mk k (.mk o tt xs) (.mk o2 t2 xs2) b), ⟨by omega, encCs_get hg⟩, ?_⟩
        (conv => whnf)
        refine CallVC.same p1 rfl rfl rfl ?_
        (conv => whnf)
        refine CallVC.same p2 rfl rfl rfl ?_
        (conv => whnf)
        refine CallVC.same p3 rfl rfl rfl ?_
        (conv => whnf)
        rcases k_of hca with rfl | rfl | rfl
        · refine splitB_t rfl ?_
          (conv => whnf)
          refine CallVC.same (refput_spec κ (tstW (.mk o tt xs) w1) ⟨32, 0, 0⟩ (by decide) (by decide)) rfl rfl rfl ?_
          obtain ⟨h1, h2⟩ := fin (putW ⟨32, 0, 0⟩ (tstW (.mk o tt xs) w1)) _ (putW_adds _ _)
          have p9 := refput_spec κ (hereW (putN (exW (.mk o tt xs) (putW ⟨29, 0, 0⟩ w1))) (putW ⟨32, 0, 0⟩ (tstW (.mk o tt xs) w1))) ⟨30, 0, 0⟩ (by decide) (by decide)
          (conv => whnf)
          refine CallVC.same h1 rfl rfl rfl ?_
          (conv => whnf)
          refine CallVC.same p9 rfl rfl rfl ?_
          (conv => whnf)
          refine CallVC.same h2 rfl rfl rfl ?_
          (conv => whnf)
          rw [IntWalk.i64_in _ (by omega)]
          exact hnext
        · refine splitB_f rfl ?_
          (conv => whnf)
          refine splitB_t rfl ?_
          (conv => whnf)
          refine CallVC.same (refexpr_spec κ (.mk o2 t2 xs2) (tstW (.mk o tt xs) w1) (s2 rfl) (by omega)) rfl rfl rfl ?_
          (conv => whnf)
          refine CallVC.same (refput_spec κ (exW (.mk o2 t2 xs2) (tstW (.mk o tt xs) w1)) ⟨31, 0, 0⟩ (by decide) (by decide)) rfl rfl rfl ?_
          obtain ⟨h1, h2⟩ := fin (putW ⟨31, 0, 0⟩ (exW (.mk o2 t2 xs2) (tstW (.mk o tt xs) w1))) _ ((exW_adds _ (s2 rfl) _).trans (putW_adds _ _))
          have p9 := refput_spec κ (hereW (putN (exW (.mk o tt xs) (putW ⟨29, 0, 0⟩ w1))) (putW ⟨31, 0, 0⟩ (exW (.mk o2 t2 xs2) (tstW (.mk o tt xs) w1)))) ⟨30, 0, 0⟩ (by decide) (by decide)
          (conv => whnf)
          refine CallVC.same h1 rfl rfl rfl ?_
          (conv => whnf)
          refine CallVC.same p9 rfl rfl rfl ?_
          (conv => whnf)
          refine CallVC.same h2 rfl rfl rfl ?_
          (conv => whnf)
          rw [IntWalk.i64_in _ (by omega)]
          exact hnext
        · refine splitB_f rfl ?_
          (conv => whnf)
          refine splitB_f rfl ?_
          (conv => whnf)
          refine splitB_t rfl ?_
          (conv => whnf)
          refine CallVC.same (ihb (tstW (.mk o tt xs) w1) (by omega)) rfl rfl rfl ?_
          obtain ⟨h1, h2⟩ := fin (clsW b (tstW (.mk o tt xs) w1)) _ (clW_adds.2 b s3 _)
          have p9 := refput_spec κ (hereW (putN (exW (.mk o tt xs) (putW ⟨29, 0, 0⟩ w1))) (clsW b (tstW (.mk o tt xs) w1))) ⟨30, 0, 0⟩ (by decide) (by decide)
          (conv => whnf)
          refine CallVC.same h1 rfl rfl rfl ?_
          (conv => whnf)
          refine CallVC.same p9 rfl rfl rfl ?_
          (conv => whnf)
          refine CallVC.same h2 rfl rfl rfl ?_
          (conv => whnf)
          rw [IntWalk.i64_in _ (by omega)]
          exact hnext
  exact key l 0 w rfl hT rfl

theorem refclauses_all (κ : Int) (c : Cl) : FitsC c → checkC c = true → ∀ k t v b, c = .mk k t v b → ∀ w : Ws, (w.T.length : Int) + ccnts b ≤ 1000000 → Meth Try.prog 37 [.ref (.b 0) 0, .p (.list 8 (encCs b))] (wos κ w) (.tup []) (wos κ (clsW b w)) := by
  induction c using Cl.ind with
  | h k t v b ih =>
    intro hf hc k' t' v' b' e
    cases e
    have h3 := (checkC_parts hc).2.2
    cases hf with
    | mk _ _ _ _ _ _ _ h1 h2 => exact refclauses_ind κ b h1 h2 h3 fun k2 t2 v2 b2 hm => ih _ hm (h2 _ hm) (checkL_mem b h3 _ hm) k2 t2 v2 b2 rfl
theorem refclauses_spec (κ : Int) (l : List Cl) (hl : (l.length : Int) ≤ 9223372036854775807) (hf : ∀ c, c ∈ l → FitsC c) (hck : checkL l = true) (w : Ws) (hT : (w.T.length : Int) + ccnts l ≤ 1000000) :
    Meth Try.prog 37 [.ref (.b 0) 0, .p (.list 8 (encCs l))] (wos κ w) (.tup []) (wos κ (clsW l w)) :=
  refclauses_ind κ l hl hf hck (fun k t v b hm => refclauses_all κ _ (hf _ hm) (checkL_mem l hck _ hm) k t v b rfl) w hT

/-! ### the two write the same -/
theorem landB_big (n : Nat) {b : Bs} (h : Big b) : Big (landB n b) := by
  rcases h with h | h
  · exact .inl (by rw [landB_len]; exact h)
  · exact .inr (by rw [landB_T]; exact h)
theorem exB_big (e : Ex) : ∀ b, Big b → Big (exB e b) := by
  induction e using Ex.ind with
  | h o t xs ih =>
    intro b h
    match xs, ih with
    | [], _ => simp only [exB]; (repeat' split) <;> first | exact namedB_big _ _ h | exact putB_big _ h | exact h
    | [a], ih => simp only [exB]; exact putB_big _ (ih a (by simp) b h)
    | [a, c], ih =>
      simp only [exB]
      split
      · exact landB_big _ (ih c (by simp) _ (putB_big _ (ih a (by simp) b h)))
      · exact putB_big _ (ih c (by simp) _ (ih a (by simp) b h))
    | _ :: _ :: _ :: _, _ => exact h

theorem sim_land {n : Nat} {m : Int} {b : Bs} {w : Ws} (h : Sim b w) (hn : w.o = false → m = n ∧ n < w.C.length) : Sim (landB n b) (hereW m w) := by
  rcases h with ⟨h0, h1, h2, h3, h4⟩ | ⟨h0, h1⟩
  · obtain ⟨g1, g2⟩ := hn h0
    refine .inl ?_
    rw [hereW, if_neg (by rw [h0]; simp)]
    refine ⟨h0, h1, ?_, h3, h4⟩
    simp only [landB, h2, g1, Int.toNat_natCast]
    rw [Nat.min_eq_left (by omega)]
  · exact .inr ⟨by rw [hereW_o]; exact h0, landB_big _ h1⟩

/-- Where a leap stands. -/
theorem sim_at {x : Ins} {b : Bs} {w w' : Ws} {n : Int} (h : Sim b w) (ha : AddsW (putW x w) w' n) : w'.o = false → putN w = b.C.length ∧ b.C.length < w'.C.length := by
  intro e
  have h1 := ha.up e
  have h2 := putW_not h1.1
  rcases h with ⟨h0, g1, g2, g3, g4⟩ | ⟨h0, _⟩
  · rw [g2]; exact ⟨h2.1, by omega⟩
  · rw [h2.2.2] at h0; cases h0

theorem sim_over {b : Bs} {w : Ws} (h : Sim b w) (ho : w.o = true) : Big b := by
  rcases h with ⟨h0, _⟩ | ⟨_, h1⟩
  · rw [h0] at ho; cases ho
  · exact h1

theorem sim_ex (e : Ex) : Shaped e → ∀ b w, Sim b w → Sim (exB e b) (exW e w) := by
  induction e using Ex.ind with
  | h o t xs ih =>
    intro hs b w h
    by_cases hov : w.o = true
    · rw [exW_over _ _ hov]; exact .inr ⟨hov, exB_big _ _ (sim_over h hov)⟩
    · rcases hs.args with ⟨h0, rfl⟩ | ⟨h0, a, rfl, ha⟩ | ⟨h0, a, c, rfl, ha, hc⟩
      · simp only [exB, exW, if_neg hov]
        rcases arity0 h0 with rfl | rfl | rfl | rfl | rfl | rfl <;> simp only [Int.reduceEq, if_true, if_false] <;> first | exact sim_named _ _ h | exact sim_put _ h
      · simp only [exB, exW, if_neg hov]
        exact sim_put _ (ih a (by simp) ha b w h)
      · have h1 := ih a (by simp) ha b w h
        simp only [exB, exW, if_neg hov]
        by_cases hl : o = 23 ∨ o = 24
        · rw [if_pos hl, if_pos hl]
          exact sim_land (ih c (by simp) hc _ _ (sim_put _ h1)) (sim_at h1 (exW_adds c hc _))
        · rw [if_neg hl, if_neg hl]
          exact sim_put _ (ih c (by simp) hc _ _ h1)

theorem endB_big (n m : Nat) {b : Bs} (h : Big b) : Big (endB n m b) := landB_big _ (putB_big _ (landB_big _ h))
theorem clB_big : (∀ c b, Big b → Big (clB c b)) ∧ ∀ l b, Big b → Big (clsB l b) := by
  have main : ∀ l : List Cl, (∀ c, c ∈ l → ∀ b, Big b → Big (clB c b)) → ∀ b, Big b → Big (clsB l b) := by
    intro l
    induction l with
    | nil => intro _ b h; exact h
    | cons c r ih => intro h b hb; exact ih (fun d hd => h d (by simp [hd])) _ (h c (by simp) b hb)
  have one : ∀ c b, Big b → Big (clB c b) := by
    intro c
    induction c using Cl.ind with
    | h k t v l ih =>
      intro b hb
      have h1 : Big (tstB t b) := putB_big _ (exB_big _ _ (putB_big _ hb))
      simp only [clB]
      refine endB_big _ _ ?_
      (repeat' split) <;> first | exact putB_big _ h1 | exact putB_big _ (exB_big _ _ h1) | exact main l ih _ h1 | exact h1
  exact ⟨one, fun l => main l fun c _ => one c⟩

theorem sim_cls : (∀ c, checkC c = true → ∀ b w, Sim b w → w.o = false → Sim (clB c b) (clW c w)) ∧ ∀ l, checkL l = true → ∀ b w, Sim b w → Sim (clsB l b) (clsW l w) := by
  have main : ∀ l : List Cl, (∀ c, c ∈ l → checkC c = true → ∀ b w, Sim b w → w.o = false → Sim (clB c b) (clW c w)) → checkL l = true → ∀ b w, Sim b w → Sim (clsB l b) (clsW l w) := by
    intro l
    induction l with
    | nil => intro _ _ b w h; exact h
    | cons c r ih =>
      intro h hc b w hs
      simp only [checkL, Bool.and_eq_true] at hc
      simp only [clsB, clsW]
      by_cases hov : w.o = true
      · rw [if_pos hov]
        exact .inr ⟨hov, clB_big.2 r _ (clB_big.1 c b (sim_over hs hov))⟩
      · rw [if_neg hov]
        exact ih (fun d hd => h d (by simp [hd])) hc.2 _ _ (h c (by simp) hc.1 b w hs (by simpa using hov))
  have one : ∀ c, checkC c = true → ∀ b w, Sim b w → w.o = false → Sim (clB c b) (clW c w) := by
    intro c
    induction c using Cl.ind with
    | h k t v l ih =>
      intro hc b w h hov
      obtain ⟨s1, s2, s3⟩ := checkC_parts hc
      have g1 := sim_put ⟨29, 0, 0⟩ h
      have g2 := sim_ex t s1 _ _ g1
      have g3 : Sim (tstB t b) (tstW t w) := sim_put ⟨28, 0, 0⟩ g2
      have a3 : AddsW (putW ⟨29, 0, 0⟩ w) (tstW t w) (ecnt t) := ((exW_adds t s1 _).trans (putW_adds ⟨28, 0, 0⟩ _)).more (by omega)
      have fin : ∀ (b4 : Bs) (w4 : Ws) (n : Int), Sim b4 w4 → AddsW (tstW t w) w4 n → Sim (endB b.C.length (exB t (putB ⟨29, 0, 0⟩ b)).C.length b4) (endW (putN w) (putN (exW t (putW ⟨29, 0, 0⟩ w))) w4) := by
        intro b4 w4 n h4 a4
        have h5 := sim_land h4 (sim_at g2 a4)
        exact sim_land (sim_put ⟨30, 0, 0⟩ h5) (sim_at h ((a3.trans (a4.here _)).trans (putW_adds ⟨30, 0, 0⟩ _)))
      simp only [clB, clW]
      by_cases k1 : k = 1
      · rw [if_pos k1, if_pos k1]; exact fin _ _ _ (sim_put _ g3) (putW_adds _ _)
      · rw [if_neg k1, if_neg k1]
        by_cases k2 : k = 2
        · rw [if_pos k2, if_pos k2]; exact fin _ _ _ (sim_put _ (sim_ex v (s2 k2) _ _ g3)) ((exW_adds v (s2 k2) _).trans (putW_adds _ _))
        · rw [if_neg k2, if_neg k2]
          by_cases k3 : k = 3
          · rw [if_pos k3, if_pos k3]; exact fin _ _ _ (main l ih s3 _ _ g3) (clW_adds.2 l s3 _)
          · rw [if_neg k3, if_neg k3]; exact fin _ _ _ g3 (AddsW.refl _)
  exact ⟨one, fun l => main l fun c _ => one c⟩

end Go.Proofs.Ythmlninecfjjgaa.AD

namespace Go.Proofs.Ythmlninecfjjgaa.AD
open Go.Proofs
set_option linter.unusedVariables false
set_option linter.unusedSimpArgs false
set_option maxRecDepth 100000

def b0 : Bs := ⟨[], [], 0, 0⟩
def w0 : Ws := ⟨[], [], 0, 0, false⟩
def finC (l : List Cl) : Bs := putB ⟨33, 0, 0⟩ (clsB l b0)
def finL (e : Li) : Bs := putB ⟨38, 0, 0⟩ (licB e b0)
def nilPg : PV := .agg [.int .u8 0, .nils, .nils, .int .i64 0]
/-- Beyond a limit. -/
def limB (κ : Int) (b : Bs) : Prop := errP κ b.T b.C b.S = 3 ∨ (κ = 1 ∧ 1024 < b.S)
instance (κ : Int) (b : Bs) : Decidable (limB κ b) := inferInstanceAs (Decidable (_ ∨ _))
def condsR (l : List Cl) : PV := if clsT l = 0 then (if limB 1 (finC l) then .tup [nilPg, .int .i64 3] else .tup [encPg 1 (finC l).T (finC l).C (finC l).S, .int .i64 0]) else .tup [nilPg, .int .i64 (clsT l)]
def licsR (e : Li) : PV := if chkLi e = true then (if limB 2 (finL e) then .tup [nilPg, .int .i64 3] else .tup [encPg 2 (finL e).T (finL e).C (finL e).S, .int .i64 0]) else .tup [nilPg, .int .i64 151]

theorem nil_pg : Flat nilPg := .agg _ fun c hc => by
  simp only [List.mem_cons, List.mem_nil_iff, or_false] at hc
  rcases hc with rfl | rfl | rfl | rfl
  · exact .int _ _
  · exact .nils
  · exact .nils
  · exact .int _ _
theorem nil_tup (n : Int) : Flat (.tup [nilPg, .int .i64 n]) := .tup _ fun c hc => by
  simp only [List.mem_cons, List.mem_nil_iff, or_false] at hc
  rcases hc with rfl | rfl
  · exact nil_pg
  · exact .int _ _
theorem tP_flat (T : List ByteArray) : ∀ e, e ∈ tP T → Flat e := fun e he => by
  rw [tP, List.mem_map] at he
  obtain ⟨t, _, rfl⟩ := he
  exact .str _
theorem cP_flat (C : List Ins) : ∀ e, e ∈ cP C → Flat e := fun e he => by
  rw [cP, List.mem_map] at he
  obtain ⟨x, _, rfl⟩ := he
  exact .agg _ fun c hc => by
    simp only [List.mem_cons, List.mem_nil_iff, or_false] at hc
    rcases hc with rfl | rfl | rfl <;> exact .int _ _
theorem mP_flat : ∀ (T : List ByteArray) (i : Nat), ∀ e, e ∈ mP i T → Flat e.1 ∧ Flat e.2
  | [], i, e, h => by cases h
  | t :: r, i, e, h => by
    simp only [mP, List.mem_cons] at h
    rcases h with rfl | h
    · exact ⟨.str _, .int _ _⟩
    · exact mP_flat r _ e h

theorem finC_bounds (l : List Cl) (hck : checkL l = true) (hcnt : ccnts l ≤ 20000) : (finC l).T.length ≤ 20000 ∧ (finC l).C.length ≤ 32769 := by
  obtain ⟨h1, h2, h3⟩ := clB_adds.2 l hck b0
  have e0 : (b0.T.length : Int) = 0 := rfl
  have e1 : b0.C.length = 0 := rfl
  have h4 := putB_len ⟨33, 0, 0⟩ (clsB l b0)
  exact ⟨by show (clsB l b0).T.length ≤ 20000; omega, (h4.2 (h3 (by omega))).1⟩
theorem licB_lim : (∀ e b, b.C.length ≤ 32769 → (licB e b).C.length ≤ 32769) ∧ ∀ l b, b.C.length ≤ 32769 → (licsB l b).C.length ≤ 32769 := by
  have main : ∀ l : List Li, (∀ a, a ∈ l → ∀ b, b.C.length ≤ 32769 → (licB a b).C.length ≤ 32769) → ∀ b, b.C.length ≤ 32769 → (licsB l b).C.length ≤ 32769 := by
    intro l
    induction l with
    | nil => intro _ b h; exact h
    | cons a r ih => intro h b hb; exact ih (fun c hc => h c (by simp [hc])) _ (h a (by simp) b hb)
  have one : ∀ e b, b.C.length ≤ 32769 → (licB e b).C.length ≤ 32769 := by
    intro e
    induction e using Li.ind with
    | h o t k xs ih =>
      intro b hb
      have h1 := main xs ih b hb
      simp only [licB]
      (repeat' split) <;> first | exact ((namedB_len _ _ _).2 hb).1 | exact ((putB_len _ _).2 h1).1
  exact ⟨one, fun l => main l fun a _ => one a⟩
theorem finL_bounds (e : Li) (hcnt : lcnt e ≤ 20000) : (finL e).T.length ≤ 20000 ∧ (finL e).C.length ≤ 32769 := by
  have h1 := licB_T.1 e b0
  have e0 : (b0.T.length : Int) = 0 := rfl
  exact ⟨by show (licB e b0).T.length ≤ 20000; omega, ((putB_len _ _).2 (licB_lim.1 e b0 (by simp [b0]))).1⟩


def condsOs (l : List Cl) : List Ob := [.cells [.p (.int .u8 1), .view (.l 3) (finC l).T.length 1 (finC l).T.length, .view (.l 4) (finC l).C.length 3 (finC l).C.length, .p (.int .i64 (finC l).S)], .map (mP 0 (finC l).T), .cells [.p (.int .u8 1), .view (.l 3) (finC l).T.length 1 (finC l).T.length, .view (.l 4) (finC l).C.length 3 (finC l).C.length, .p (.int .i64 (finC l).S), .mapr (.l 1), .p (.int .i64 (finC l).h)], .buf (finC l).T.length 1 (tP (finC l).T), .buf (finC l).C.length 3 (cP (finC l).C), .cells [.p (.int .u8 1), .view (.l 3) (finC l).T.length 1 (finC l).T.length, .view (.l 4) (finC l).C.length 3 (finC l).C.length, .p (.int .i64 (finC l).S)]]
def condsRv (l : List Cl) : AV := .tup [.agg [.p (.int .u8 1), .view (.l 3) (finC l).T.length 1 (finC l).T.length, .view (.l 4) (finC l).C.length 3 (finC l).C.length, .p (.int .i64 (finC l).S)], .p (.int .i64 0)]

set_option maxHeartbeats 4000000 in
theorem Conds_K (l : List Cl) (hl : (l.length : Int) ≤ 9223372036854775807) (hf : ∀ c, c ∈ l → FitsC c) (hcnt : ccnts l ≤ 20000) (K : AV → List Ob → List Ob → Prop)
    (k1 : clsT l ≠ 0 → ∀ os, K (.p (.tup [nilPg, .int .i64 (clsT l)])) [] os) (k2 : clsT l = 0 → limB 1 (finC l) → ∀ os, K (.p (.tup [nilPg, .int .i64 3])) [] os)
    (k3 : clsT l = 0 → ¬ limB 1 (finC l) → K (condsRv l) [] (condsOs l)) : CallVC Try.prog 19 [.p (.list 8 (encCs l))] [] [] K := by
  have hcl := Clauses_spec l hl hf
  have he := encCs_len l
  refine CallVC.inline f19_ok ?_
  (conv => whnf)
  refine CallVC.pureF hcl rfl ?_
  (conv => whnf)
  by_cases h0 : clsT l = 0
  · have hck : checkL l = true := by
      rw [clsT] at h0
      split at h0
      · assumption
      · cases h0
    obtain ⟨hBT, hBC⟩ := finC_bounds l hck hcnt
    have hcc := codeCheck_spec 1 (finC l).T (finC l).C (finC l).S (by omega) (by omega)
    rw [h0]
    refine splitB_f rfl ?_
    (conv => whnf)
    refine CallVC.ghostP 2 2 3 ?_
    refine CallVC.ghostP 2 1 1 ?_
    refine CallVC.inline f30_ok ?_
    (conv => whnf)
    refine ⟨_, rfl, rfl, _, rfl, rfl, ?_⟩
    (conv => whnf)
    intro R hR
    have key : ∀ (r : List Cl) (i : Nat) (b4 : Bs), l.drop i = r → b4.C.length ≤ 32769 → (b4.T.length : Int) + ccnts r ≤ 1000000 → clsB r b4 = clsB l b0 → R [(2, .ref (.l 0) 0), (5, .ref (.l 2) 0), (15, .p (.list 8 (encCs l))), (16, .p (.int .i64 (encCs l).length)), (17, .p (.int .i64 i))] [] [.cells [.p (.int .u8 0), .p .nils, .p .nils, .p (.int .i64 0)], .map (mP 0 b4.T), .cells [.p (.int .u8 1), .view (.l 3) b4.T.length 1 b4.T.length, .view (.l 4) b4.C.length 3 b4.C.length, .p (.int .i64 b4.S), .mapr (.l 1), .p (.int .i64 b4.h)], .buf b4.T.length 1 (tP b4.T), .buf b4.C.length 3 (cP b4.C)] := by
      intro r
      induction r with
      | nil =>
        intro i b4 hd g2 g3 hq
        have hl := drop_nil hd
        have hq : b4 = clsB l b0 := hq
        subst hq
        refine hR _ _ _ ?_
        (conv => whnf)
        refine splitB_f (decide_eq_false (by omega)) ?_
        (conv => whnf)
        refine CallVC.methM' [2, 3, 4, 1, 0] 5 [.cells [.p (.int .u8 0), .p .nils, .p .nils, .p (.int .i64 0)], .map (mP 0 (finC l).T), .cells [.p (.int .u8 1), .view (.l 3) (finC l).T.length 1 (finC l).T.length, .view (.l 4) (finC l).C.length 3 (finC l).C.length, .p (.int .i64 (finC l).S), .mapr (.l 1), .p (.int .i64 (finC l).h)], .buf (finC l).T.length 1 (tP (finC l).T), .buf (finC l).C.length 3 (cP (finC l).C)] (op_spec 1 (clsB l b0) 33) rfl rfl rfl rfl rfl (by decide) (by decide) rfl ?_
        (conv => whnf)
        refine CallVC.inline f33_ok ?_
        (conv => whnf)
        refine CallVC.lend (ps := [encPg 1 (finC l).T (finC l).C (finC l).S]) hcc (.int _ _) (.cons _ _ _ _ (.agg _ _ rfl fun j c p hc hp => ?_) .nil) ?_
        · match j, hc, hp with
          | 0, hc, hp => cases hc; cases hp; exact .p _
          | 1, hc, hp => cases hc; cases hp; exact Lend.all _ _ _ _ rfl (tP_len _).symm
          | 2, hc, hp => cases hc; cases hp; exact Lend.all _ _ _ _ rfl (cP_len _).symm
          | 3, hc, hp => cases hc; cases hp; exact .p _
        (conv => whnf)
        by_cases her : errP 1 (finC l).T (finC l).C (finC l).S = 3
        · have q := fun os => k2 h0 (.inl her) os
          refine splitB_t (beq_iff_eq.2 her) ?_
          (conv => whnf)
          refine splitB_t rfl ?_
          (conv => whnf)
          exact q _
        · refine splitB_f (beq_eq_false_iff_ne.2 her) ?_
          (conv => whnf)
          refine splitB_t rfl ?_
          (conv => whnf)
          refine splitB_dec (fun hS => ?_) (fun hS => ?_)
          · have q := fun os => k2 h0 (.inr ⟨rfl, by omega⟩) os
            (conv => whnf)
            exact q _
          · have q := k3 h0 (fun h => by rcases h with h | ⟨_, h⟩; exact her h; omega)
            (conv => whnf)
            exact q
      | cons a r ihr =>
        intro i b4 hd g2 g3 hq
        obtain ⟨hg, hd', hi⟩ := drop_cons hd
        have hmem := List.mem_of_getElem? hg
        have hca := checkL_mem l hck a hmem
        have ha := clB_adds.1 a hca b4
        have hpr := ccnt_pos.2 r
        simp only [ccnts] at g3
        have haT := ha.T
        have haC := ha.lim g2
        have iha := clause_spec 1 a b4 hca (hf a hmem) (by omega) g2
        refine hR _ _ _ ?_
        (conv => whnf)
        refine splitB_t (decide_eq_true (by omega)) ?_
        (conv => whnf)
        obtain ⟨k', ⟨o', t', xs'⟩, ⟨o3, t3, xs3⟩, l'⟩ := a
        refine ⟨rfl, encC (.mk k' (.mk o' t' xs') (.mk o3 t3 xs3) l'), ⟨by omega, encCs_get hg⟩, ?_⟩
        (conv => whnf)
        refine CallVC.methM' [2, 3, 4, 1, 0, 5] 6 [.cells [.p (.int .u8 0), .p .nils, .p .nils, .p (.int .i64 0)], .map (mP 0 (clB (.mk k' (.mk o' t' xs') (.mk o3 t3 xs3) l') b4).T), .cells [.p (.int .u8 1), .view (.l 3) (clB (.mk k' (.mk o' t' xs') (.mk o3 t3 xs3) l') b4).T.length 1 (clB (.mk k' (.mk o' t' xs') (.mk o3 t3 xs3) l') b4).T.length, .view (.l 4) (clB (.mk k' (.mk o' t' xs') (.mk o3 t3 xs3) l') b4).C.length 3 (clB (.mk k' (.mk o' t' xs') (.mk o3 t3 xs3) l') b4).C.length, .p (.int .i64 (clB (.mk k' (.mk o' t' xs') (.mk o3 t3 xs3) l') b4).S), .mapr (.l 1), .p (.int .i64 (clB (.mk k' (.mk o' t' xs') (.mk o3 t3 xs3) l') b4).h)], .buf (clB (.mk k' (.mk o' t' xs') (.mk o3 t3 xs3) l') b4).T.length 1 (tP (clB (.mk k' (.mk o' t' xs') (.mk o3 t3 xs3) l') b4).T), .buf (clB (.mk k' (.mk o' t' xs') (.mk o3 t3 xs3) l') b4).C.length 3 (cP (clB (.mk k' (.mk o' t' xs') (.mk o3 t3 xs3) l') b4).C), .cells [.p (.int .u8 k'), .p (.int .u8 o'), .p (.str t'), .p (.list 3 (encs xs')), .p (.int .u8 o3), .p (.str t3), .p (.list 3 (encs xs3)), .p (.list 8 (encCs l'))]] iha rfl rfl rfl rfl rfl (by decide) (by decide) rfl ?_
        (conv => whnf)
        rw [IntWalk.i64_in _ (by omega)]
        exact ihr (i + 1) _ hd' haC.1 (by omega) hq
    have p2 := ccnt_pos.2 l
    exact key l 0 b0 rfl (by simp [b0]) (by simp [b0]; omega) rfl
  · have q := k1 h0
    refine splitB_t (bne_iff_ne.2 h0) ?_
    exact q _

theorem Conds_own (l : List Cl) (hl : (l.length : Int) ≤ 9223372036854775807) (hf : ∀ c, c ∈ l → FitsC c) (hcnt : ccnts l ≤ 20000) (h0 : clsT l = 0) (h1 : ¬ limB 1 (finC l)) :
    CallVC Try.prog 19 ([.list 8 (encCs l)].map .p) [] [] fun r b os => r = condsRv l ∧ os = condsOs l :=
  Conds_K l hl hf hcnt _ (fun h => absurd h0 h) (fun _ h => absurd h h1) fun _ _ => ⟨rfl, rfl⟩

theorem prog_lend (κ S : Int) (i j : Nat) (os : List Ob) (T : List ByteArray) (C : List Ins) (h1 : os[i]? = some (.buf T.length 1 (tP T))) (h2 : os[j]? = some (.buf C.length 3 (cP C))) :
    LendF os (.tup [.agg [.p (.int .u8 κ), .view (.l i) T.length 1 T.length, .view (.l j) C.length 3 C.length, .p (.int .i64 S)], .p (.int .i64 0)]) (.tup [encPg κ T C S, .int .i64 0]) := by
  refine .tup _ _ rfl fun n c p hc hp => ?_
  match n, hc, hp with
  | 0, hc, hp =>
    cases hc; cases hp
    refine .agg _ _ rfl fun n c p hc hp => ?_
    match n, hc, hp with
    | 0, hc, hp => cases hc; cases hp; exact .p _ (.int _ _)
    | 1, hc, hp => cases hc; cases hp; exact .view _ _ _ _ _ h1 (tP_len T).symm (tP_flat T)
    | 2, hc, hp => cases hc; cases hp; exact .view _ _ _ _ _ h2 (cP_len C).symm (cP_flat C)
    | 3, hc, hp => cases hc; cases hp; exact .p _ (.int _ _)
  | 1, hc, hp => cases hc; cases hp; exact .p _ (.int _ _)

theorem Conds_pure (l : List Cl) (hl : (l.length : Int) ≤ 9223372036854775807) (hf : ∀ c, c ∈ l → FitsC c) (hcnt : ccnts l ≤ 20000) : pureF Try.prog 19 [.p (.list 8 (encCs l))] (.p (condsR l)) := by
  refine pureF_fresh (ps := [.list 8 (encCs l)]) (Conds_K l hl hf hcnt _ (fun h os => ?_) (fun h0 h os => ?_) fun h0 h => ?_)
  · rw [condsR, if_neg h]; exact .p _ (nil_tup _)
  · rw [condsR, if_pos h0, if_pos h]; exact .p _ (nil_tup _)
  · rw [condsR, if_pos h0, if_neg h]
    exact prog_lend 1 _ 3 4 _ _ _ rfl rfl

set_option maxHeartbeats 4000000 in
theorem Lics_pure (e : Li) (hfit : FitsL e) (hcnt : lcnt e ≤ 20000) : pureF Try.prog 12 [.p (encL e)] (.p (licsR e)) := by
  refine pureF_fresh (ps := [encL e]) ?_
  have hck := licsCheck_spec e hfit
  obtain ⟨hBT, hBC⟩ := finL_bounds e hcnt
  have hcc := codeCheck_spec 2 (finL e).T (finL e).C (finL e).S (by omega) (by omega)
  have hlic := lic_spec 2 e b0 hfit (by simp [b0]; omega)
  have fin : ∀ r os, chkLi e = true → limB 2 (finL e) → r = .p (.tup [nilPg, .int .i64 3]) → LendF os r (licsR e) := fun r os h1 h2 h3 => by
    rw [licsR, if_pos h1, if_pos h2, h3]; exact .p _ (nil_tup _)
  have fin2 : ∀ r os, chkLi e = false → r = .p (.tup [nilPg, .int .i64 151]) → LendF os r (licsR e) := fun r os h1 h3 => by
    rw [licsR, if_neg (by rw [h1]; simp), h3]; exact .p _ (nil_tup _)
  obtain ⟨o, t, k, xs⟩ := e
  refine CallVC.inline f12_ok ?_
  (conv => whnf)
  refine CallVC.pureF hck rfl ?_
  cases hchk : chkLi (.mk o t k xs) with
  | false =>
    (conv => whnf)
    refine splitB_t rfl ?_
    (conv => whnf)
    exact fin2 _ _ hchk rfl
  | true =>
    (conv => whnf)
    refine splitB_f rfl ?_
    (conv => whnf)
    refine CallVC.ghostP 3 2 3 ?_
    refine CallVC.ghostP 3 1 1 ?_
    refine CallVC.inline f30_ok ?_
    (conv => whnf)
    refine ⟨_, rfl, rfl, _, rfl, rfl, ?_⟩
    (conv => whnf)
    refine CallVC.methM' [3, 4, 5, 2, 0, 1] 6 [.cells [.p (.int .u8 o), .p (.str t), .p (.int .i64 k), .p (.list 4 (encLs xs))], .cells [.p (.int .u8 0), .p .nils, .p .nils, .p (.int .i64 0)], .map (mP 0 (licB (.mk o t k xs) b0).T), .cells [.p (.int .u8 2), .view (.l 4) (licB (.mk o t k xs) b0).T.length 1 (licB (.mk o t k xs) b0).T.length, .view (.l 5) (licB (.mk o t k xs) b0).C.length 3 (licB (.mk o t k xs) b0).C.length, .p (.int .i64 (licB (.mk o t k xs) b0).S), .mapr (.l 2), .p (.int .i64 (licB (.mk o t k xs) b0).h)], .buf (licB (.mk o t k xs) b0).T.length 1 (tP (licB (.mk o t k xs) b0).T), .buf (licB (.mk o t k xs) b0).C.length 3 (cP (licB (.mk o t k xs) b0).C)] hlic rfl rfl rfl rfl rfl (by decide) (by decide) rfl ?_
    (conv => whnf)
    refine CallVC.methM' [3, 4, 5, 2, 0, 1] 6 [.cells [.p (.int .u8 o), .p (.str t), .p (.int .i64 k), .p (.list 4 (encLs xs))], .cells [.p (.int .u8 0), .p .nils, .p .nils, .p (.int .i64 0)], .map (mP 0 (finL (.mk o t k xs)).T), .cells [.p (.int .u8 2), .view (.l 4) (finL (.mk o t k xs)).T.length 1 (finL (.mk o t k xs)).T.length, .view (.l 5) (finL (.mk o t k xs)).C.length 3 (finL (.mk o t k xs)).C.length, .p (.int .i64 (finL (.mk o t k xs)).S), .mapr (.l 2), .p (.int .i64 (finL (.mk o t k xs)).h)], .buf (finL (.mk o t k xs)).T.length 1 (tP (finL (.mk o t k xs)).T), .buf (finL (.mk o t k xs)).C.length 3 (cP (finL (.mk o t k xs)).C)] (op_spec 2 (licB (.mk o t k xs) b0) 38) rfl rfl rfl rfl rfl (by decide) (by decide) rfl ?_
    (conv => whnf)
    refine CallVC.inline f33_ok ?_
    (conv => whnf)
    refine CallVC.lend (ps := [encPg 2 (finL (.mk o t k xs)).T (finL (.mk o t k xs)).C (finL (.mk o t k xs)).S]) hcc (.int _ _) (.cons _ _ _ _ (.agg _ _ rfl fun j c p hc hp => ?_) .nil) ?_
    · match j, hc, hp with
      | 0, hc, hp => cases hc; cases hp; exact .p _
      | 1, hc, hp => cases hc; cases hp; exact Lend.all _ _ _ _ rfl (tP_len _).symm
      | 2, hc, hp => cases hc; cases hp; exact Lend.all _ _ _ _ rfl (cP_len _).symm
      | 3, hc, hp => cases hc; cases hp; exact .p _
    (conv => whnf)
    by_cases her : errP 2 (finL (.mk o t k xs)).T (finL (.mk o t k xs)).C (finL (.mk o t k xs)).S = 3
    · refine splitB_t (beq_iff_eq.2 her) ?_
      (conv => whnf)
      refine splitB_t rfl ?_
      (conv => whnf)
      exact fin _ _ hchk (.inl her) rfl
    · refine splitB_f (beq_eq_false_iff_ne.2 her) ?_
      (conv => whnf)
      refine splitB_f rfl ?_
      (conv => whnf)
      refine splitB_f rfl ?_
      (conv => whnf)
      rw [licsR, if_pos hchk, if_neg (fun h => by rcases h with h | ⟨h, _⟩; exact her h; cases h)]
      exact prog_lend 2 _ 4 5 _ _ _ rfl rfl

end Go.Proofs.Ythmlninecfjjgaa.AD

namespace Go.Proofs.Ythmlninecfjjgaa.AD
open Go.Proofs
set_option linter.unusedVariables false
set_option linter.unusedSimpArgs false
set_option maxRecDepth 100000

def finW (l : List Cl) : Ws := putW ⟨33, 0, 0⟩ (clsW l w0)
theorem fin_sim (l : List Cl) (hck : checkL l = true) : Sim (finC l) (finW l) := sim_put _ (sim_cls.2 l hck b0 w0 (.inl ⟨rfl, rfl, rfl, rfl, rfl⟩))

def Tidy (b : Bs) : Prop := ∀ t, t ∈ b.T → t.size ≤ 20000
theorem namedB_tidy (o : Int) (s : ByteArray) (hs : s.size ≤ 20000) (b : Bs) (h : Tidy b) : Tidy (namedB o s b) := by
  rw [namedB]
  split
  · exact h
  · intro t ht
    have ht : t ∈ b.T ++ [s] := ht
    simp only [List.mem_append, List.mem_singleton] at ht
    rcases ht with ht | rfl
    · exact h t ht
    · exact hs
theorem exB_tidy (e : Ex) : FewE e → ∀ b, Tidy b → Tidy (exB e b) := by
  induction e using Ex.ind with
  | h o t xs ih =>
    intro hf b h
    cases hf with
    | mk _ _ _ ht hx hxs =>
    match xs, ih, hxs with
    | [], _, _ => simp only [exB]; (repeat' split) <;> first | exact namedB_tidy _ _ ht b h | exact h
    | [a], ih, hxs => simp only [exB]; exact ih a (by simp) (hxs a (by simp)) b h
    | [a, c], ih, hxs =>
      have h1 := ih a (by simp) (hxs a (by simp)) b h
      simp only [exB]
      split
      · exact ih c (by simp) (hxs c (by simp)) (putB _ _) h1
      · exact ih c (by simp) (hxs c (by simp)) _ h1
    | _ :: _ :: _ :: _, _, _ => exact h
theorem clB_tidy : (∀ c, FewD c → ∀ b, Tidy b → Tidy (clB c b)) ∧ ∀ l : List Cl, (∀ c, c ∈ l → FewD c) → ∀ b, Tidy b → Tidy (clsB l b) := by
  have main : ∀ l : List Cl, (∀ c, c ∈ l → ∀ b, Tidy b → Tidy (clB c b)) → ∀ b, Tidy b → Tidy (clsB l b) := by
    intro l
    induction l with
    | nil => intro _ b h; exact h
    | cons c r ih => intro h b hb; exact ih (fun d hd => h d (by simp [hd])) _ (h c (by simp) b hb)
  have one : ∀ c, FewD c → ∀ b, Tidy b → Tidy (clB c b) := by
    intro c
    induction c using Cl.ind with
    | h k t v l ih =>
      intro hf b hb
      cases hf with
      | mk _ _ _ _ ht hv _ hl =>
      have h1 : Tidy (tstB t b) := exB_tidy t ht (putB ⟨29, 0, 0⟩ b) hb
      have h2 : ∀ b4, Tidy b4 → ∀ n m, Tidy (endB n m b4) := fun b4 h n m => h
      simp only [clB]
      refine h2 _ ?_ _ _
      (repeat' split) <;> first | exact h1 | exact exB_tidy v hv _ h1 | exact main l (fun c hc => ih c hc (hl c hc)) _ h1
  exact ⟨one, fun l h => main l fun c hc => one c (h c hc)⟩
theorem finC_tidy (l : List Cl) (h : ∀ c, c ∈ l → FewD c) : Tidy (finC l) := clB_tidy.2 l h b0 fun t ht => by cases ht

set_option maxHeartbeats 4000000 in
theorem refConds_pure (l : List Cl) (hl : (l.length : Int) ≤ 9223372036854775807) (hf : ∀ c, c ∈ l → FitsC c) (hfew : ∀ c, c ∈ l → FewD c) (hcnt : ccnts l ≤ 20000) : pureF Try.prog 18 [.p (.list 8 (encCs l))] (.p (condsR l)) := by
  refine pureF_fresh (ps := [.list 8 (encCs l)]) ?_
  have hcl := refClauses_spec l hl hf
  refine CallVC.inline f18_ok ?_
  (conv => whnf)
  refine CallVC.pureF hcl rfl ?_
  (conv => whnf)
  by_cases h0 : clsT l = 0
  · have hck : checkL l = true := by
      rw [clsT] at h0
      split at h0
      · assumption
      · cases h0
    have hS := fin_sim l hck
    have htd := finC_tidy l hfew
    obtain ⟨hBT, hBC⟩ := finC_bounds l hck hcnt
    have hcls := refclauses_spec 1 l hl hf hck w0 (by simp [w0]; omega)
    have fin : ∀ r os, limB 1 (finC l) → r = .p (.tup [nilPg, .int .i64 3]) → LendF os r (condsR l) := fun r os h2 h3 => by
      rw [condsR, if_pos h0, if_pos h2, h3]; exact .p _ (nil_tup _)
    rw [h0]
    refine splitB_f rfl ?_
    (conv => whnf)
    refine CallVC.ghost 1 1 1 rfl rfl ?_
    refine CallVC.ghost 1 2 3 rfl rfl ?_
    refine CallVC.methM' [1, 2, 3, 0] 4 [.cells [.p (.int .u8 0), .p .nils, .p .nils, .p (.int .i64 0)], .cells [.p (.int .u8 1), .view (.l 2) (clsW l w0).T.length 1 (clsW l w0).T.length, .view (.l 3) (clsW l w0).C.length 3 (clsW l w0).C.length, .p (.int .i64 (clsW l w0).S), .p (.int .i64 (clsW l w0).h), .p (.bool (clsW l w0).o)], .buf (clsW l w0).T.length 1 (tP (clsW l w0).T), .buf (clsW l w0).C.length 3 (cP (clsW l w0).C)] hcls rfl rfl rfl rfl rfl (by decide) (by decide) rfl ?_
    (conv => whnf)
    refine CallVC.methM' [1, 2, 3, 0] 4 [.cells [.p (.int .u8 0), .p .nils, .p .nils, .p (.int .i64 0)], .cells [.p (.int .u8 1), .view (.l 2) (finW l).T.length 1 (finW l).T.length, .view (.l 3) (finW l).C.length 3 (finW l).C.length, .p (.int .i64 (finW l).S), .p (.int .i64 (finW l).h), .p (.bool (finW l).o)], .buf (finW l).T.length 1 (tP (finW l).T), .buf (finW l).C.length 3 (cP (finW l).C)] (refput_spec 1 (clsW l w0) ⟨33, 0, 0⟩ (by decide) (by decide)) rfl rfl rfl rfl rfl (by decide) (by decide) rfl ?_
    (conv => whnf)
    refine CallVC.inline f29_ok ?_
    (conv => whnf)
    rcases hS with ⟨hov, eT, eC, eS, eh⟩ | ⟨hov, hbig⟩
    · have hrc := refCheck21_spec 1 (finW l).T (finW l).C (finW l).S (by rw [← eT]; omega) (by rw [← eC]; omega) (by rw [← eT]; intro t ht; have := htd t ht; omega)
      refine splitB_f hov ?_
      (conv => whnf)
      refine CallVC.lend (ps := [encPg 1 (finW l).T (finW l).C (finW l).S]) hrc (.int _ _) (.cons _ _ _ _ (.agg _ _ rfl fun j c p hc hp => ?_) .nil) ?_
      · match j, hc, hp with
        | 0, hc, hp => cases hc; cases hp; exact .p _
        | 1, hc, hp => cases hc; cases hp; exact Lend.all _ _ _ _ rfl (tP_len _).symm
        | 2, hc, hp => cases hc; cases hp; exact Lend.all _ _ _ _ rfl (cP_len _).symm
        | 3, hc, hp => cases hc; cases hp; exact .p _
      (conv => whnf)
      by_cases her : errP 1 (finW l).T (finW l).C (finW l).S = 3
      · refine splitB_t (beq_iff_eq.2 her) ?_
        (conv => whnf)
        refine splitB_t rfl ?_
        (conv => whnf)
        exact fin _ _ (.inl (by rw [eT, eC, eS]; exact her)) rfl
      · refine splitB_f (beq_eq_false_iff_ne.2 her) ?_
        (conv => whnf)
        refine splitB_t rfl ?_
        (conv => whnf)
        refine splitB_dec (fun hS => ?_) (fun hS => ?_)
        · (conv => whnf)
          exact fin _ _ (.inr ⟨rfl, by rw [eS]; omega⟩) rfl
        · (conv => whnf)
          rw [condsR, if_pos h0, if_neg (fun h => by rw [limB, eT, eC, eS] at h; rcases h with h | ⟨_, h⟩; exact her h; omega), eT, eC, eS]
          exact prog_lend 1 _ 2 3 _ _ _ rfl rfl
    · refine splitB_t hov ?_
      repeat' ((conv => whnf); refine splitB_t rfl ?_)
      (conv => whnf)
      exact fin _ _ (.inl (by rw [errP, if_pos (by rcases hbig with h | h; exact .inl h; exact .inr h)])) rfl
  · refine splitB_t (bne_iff_ne.2 h0) ?_
    (conv => whnf)
    rw [condsR, if_neg h0]
    exact .p _ (nil_tup _)

/-! ### the laws -/
theorem nil_same : pureF Try.prog 13 [.p nilPg, .p nilPg] (.p (.bool true)) := by
  have h := SameProgram_spec 0 [] [] 0 (by simp) (by simp)
  have hle : PV.le nilPg (encPg 0 [] [] 0) := .agg (.cons _ _ _ _ (.refl _) (.cons _ _ _ _ (.nils 1) (.cons _ _ _ _ (.nils 3) (.cons _ _ _ _ (.refl _) .nil))))
  exact h.args (.p _ _ _ _ hle (.p _ _ _ _ hle .nil))

theorem works_spec : pureF Try.prog 9 [] (.p (.bool true)) := by
  refine pureF_of f9_ok fun H => ?_
  have hfit : FitsL (.mk 1 ⟨#[97]⟩ 0 []) := .mk _ _ _ _ (by decide) (by decide) (by decide) (by decide) (by decide) fun a ha => by cases ha
  have hle : PV.le (.agg [.int .u8 1, .str ⟨#[97]⟩, .int .i64 0, .nils]) (encL (.mk 1 ⟨#[97]⟩ 0 [])) := .agg (.cons _ _ _ _ (.refl _) (.cons _ _ _ _ (.refl _) (.cons _ _ _ _ (.refl _) (.cons _ _ _ _ (.nils 4) .nil))))
  have hlic := (Lics_pure (.mk 1 ⟨#[97]⟩ 0 []) hfit (by decide)).args (.p _ _ _ _ hle .nil)
  have hfin : finL (.mk 1 ⟨#[97]⟩ 0 []) = ⟨[⟨#[97]⟩], [⟨34, 0, 0⟩, ⟨38, 0, 0⟩], 1, 0⟩ := rfl
  have hR : licsR (.mk 1 ⟨#[97]⟩ 0 []) = .tup [encPg 2 [⟨#[97]⟩] [⟨34, 0, 0⟩, ⟨38, 0, 0⟩] 1, .int .i64 0] := by
    rw [licsR, if_pos (by decide), hfin, if_neg (by decide)]
  rw [hR] at hlic
  have hsame := SameProgram_spec 2 [⟨#[97]⟩] [⟨34, 0, 0⟩, ⟨38, 0, 0⟩] 1 (by simp) (by simp)
  repeat' ((conv => whnf); first | refine CallVC.pureF hlic rfl ?_ | refine CallVC.pureF hsame rfl ?_ | refine splitB_t rfl ?_ | refine splitB_f rfl ?_ | exact ⟨rfl, rfl⟩)

theorem condsRv_flat (l : List Cl) : FlatA (condsRv l) := .tup _ fun a ha => by
  simp only [List.mem_cons, List.mem_nil_iff, or_false] at ha
  rcases ha with rfl | rfl
  · refine .agg _ fun a ha => ?_
    simp only [List.mem_cons, List.mem_nil_iff, or_false] at ha
    rcases ha with rfl | rfl | rfl | rfl
    · exact .p _ (.int _ _)
    · exact .view _ _ _ _
    · exact .view _ _ _ _
    · exact .p _ (.int _ _)
  · exact .p _ (.int _ _)
theorem condsOs_flat (l : List Cl) : ∀ o, o ∈ condsOs l → FlatO o := fun o ho => by
  have cell : ∀ cs : List AV, (∀ a, a ∈ cs → FlatA a) → FlatO (.cells cs) := fun cs h => h
  simp only [condsOs, List.mem_cons, List.mem_nil_iff, or_false] at ho
  rcases ho with rfl | rfl | rfl | rfl | rfl | rfl
  · refine cell _ fun a ha => ?_
    simp only [List.mem_cons, List.mem_nil_iff, or_false] at ha
    rcases ha with rfl | rfl | rfl | rfl <;> first | exact .p _ (.int _ _) | exact .view _ _ _ _
  · exact mP_flat _ _
  · refine cell _ fun a ha => ?_
    simp only [List.mem_cons, List.mem_nil_iff, or_false] at ha
    rcases ha with rfl | rfl | rfl | rfl | rfl | rfl <;> first | exact .p _ (.int _ _) | exact .view _ _ _ _ | exact .mapr _
  · exact tP_flat _
  · exact cP_flat _
  · refine cell _ fun a ha => ?_
    simp only [List.mem_cons, List.mem_nil_iff, or_false] at ha
    rcases ha with rfl | rfl | rfl | rfl <;> first | exact .p _ (.int _ _) | exact .view _ _ _ _

set_option maxHeartbeats 4000000 in
theorem CompileConds_spec (l : List Cl) (hl : (l.length : Int) ≤ 9223372036854775807) (hf : ∀ c, c ∈ l → FitsC c) : pureF Try.prog 4 [.p (.list 8 (encCs l))] (.p (.bool true)) := by
  refine pureF_nil_of (ps := [.list 8 (encCs l)]) f4_ok (.bool _) ?_
  have hlw := Weights_spec l hl hf 20000 (by omega) (by omega)
  have hw := works_spec
  have hns := nil_same
  (conv => whnf)
  refine CallVC.pureF hlw rfl ?_
  (conv => whnf)
  refine splitB_dec (fun h => ?_) (fun h => ?_)
  · (conv => whnf)
    refine CallVC.pureF hw rfl ?_
    exact ⟨rfl, rfl⟩
  · obtain ⟨few1, few2, few3⟩ := fewDs_of l 20000 (by omega) (by omega)
    have hlent := LentClauses_spec l few1 fun c hc => (few2 c hc).fewC
    have hkept := KeptClauses_spec l few1 fun c hc => (few2 c hc).fewC
    have href := refConds_pure l hl hf few2 few3
    have hcon := (Conds_pure l hl hf few3).args (.p _ _ _ _ (encTCs_le l) .nil)
    (conv => whnf)
    refine CallVC.pureF hlent rfl ?_
    (conv => whnf)
    refine CallVC.pureF href rfl ?_
    by_cases hok : clsT l = 0 ∧ ¬ limB 1 (finC l)
    · have hR : condsR l = .tup [encPg 1 (finC l).T (finC l).C (finC l).S, .int .i64 0] := by rw [condsR, if_pos hok.1, if_neg hok.2]
      have hown := Conds_own l hl hf few3 hok.1 hok.2
      have hck : checkL l = true := by
        have h0 := hok.1
        rw [clsT] at h0
        split at h0
        · assumption
        · cases h0
      obtain ⟨hBT, hBC⟩ := finC_bounds l hck few3
      have hsame := SameProgram_spec 1 (finC l).T (finC l).C (finC l).S (by omega) (by omega)
      have hT := tP_len (finC l).T
      have hC := cP_len (finC l).C
      rw [hR] at hcon ⊢
      (conv => whnf)
      refine CallVC.args (CallVC.fresh (ps := [.list 8 (encCs l)]) hown (condsRv_flat l) (condsOs_flat l) 1 rfl ?_) (.p _ _ _ _ (encTCs_le l) .nil)
      (conv => whnf)
      refine CallVC.lend (ps := [encPg 1 (finC l).T (finC l).C (finC l).S, encPg 1 (finC l).T (finC l).C (finC l).S]) hsame (.bool _) (.cons _ _ _ _ (.agg _ _ rfl fun j c p hc hp => ?_) (.cons _ _ _ _ (.p _) .nil)) ?_
      · match j, hc, hp with
        | 0, hc, hp => cases hc; cases hp; exact .p _
        | 1, hc, hp => cases hc; cases hp; exact Lend.all _ _ _ _ rfl (tP_len _).symm
        | 2, hc, hp => cases hc; cases hp; exact Lend.all _ _ _ _ rfl (cP_len _).symm
        | 3, hc, hp => cases hc; cases hp; exact .p _
      repeat' ((conv => whnf); first | refine splitB_t rfl ?_ | refine splitB_f rfl ?_ | refine CallVC.inline f14_ok ?_)
      (conv => whnf)
      intro R hR
      have key : ∀ (d i : Nat) (zs : List ByteArray), zs.length = (finC l).T.length → i + d = (finC l).T.length → R [(1, .ref (.l 8) 0), (2, .p (.int .i64 i))] [] [.cells [.p (.int .u8 1), .p (.list 1 (tP (finC l).T)), .p (.list 3 (cP (finC l).C)), .p (.int .i64 (finC l).S)], .cells [.p (.int .u8 1), .view (.l 4) (finC l).T.length 1 (finC l).T.length, .view (.l 5) (finC l).C.length 3 (finC l).C.length, .p (.int .i64 (finC l).S)], .map (mP 0 (finC l).T), .cells [.p (.int .u8 1), .view (.l 4) (finC l).T.length 1 (finC l).T.length, .view (.l 5) (finC l).C.length 3 (finC l).C.length, .p (.int .i64 (finC l).S), .mapr (.l 2), .p (.int .i64 (finC l).h)], .buf (finC l).T.length 1 (tP zs), .buf (finC l).C.length 3 (cP (finC l).C), .cells [.p (.int .u8 1), .view (.l 4) (finC l).T.length 1 (finC l).T.length, .view (.l 5) (finC l).C.length 3 (finC l).C.length, .p (.int .i64 (finC l).S)], .cells [.p (.int .u8 1), .view (.l 4) (finC l).T.length 1 (finC l).T.length, .view (.l 5) (finC l).C.length 3 (finC l).C.length, .p (.int .i64 (finC l).S)], .cells [.p (.int .u8 1), .view (.l 4) (finC l).T.length 1 (finC l).T.length, .view (.l 5) (finC l).C.length 3 (finC l).C.length, .p (.int .i64 (finC l).S)]] := by
        intro d
        induction d with
        | succ d ih =>
          intro i zs hz hd
          refine hR _ _ _ ?_
          (conv => whnf)
          refine ⟨rfl, ?_⟩
          (conv => whnf)
          refine splitB_t (decide_eq_true (by omega)) ?_
          (conv => whnf)
          refine ⟨⟨rfl, by omega, by omega⟩, ?_⟩
          (conv => whnf)
          refine ⟨rfl, ?_⟩
          (conv => whnf)
          refine ⟨⟨rfl, rfl⟩, .str zs[i], tP_get (List.getElem?_eq_getElem (by omega)), ?_⟩
          (conv => whnf)
          refine ⟨rfl, rfl, ?_⟩
          (conv => whnf)
          rw [IntWalk.i64_in (i + 1) (by omega)]
          have q := ih (i + 1) (zs.set i ⟨#[119, 114, 105, 116, 116, 101, 110, 32, 111, 118, 101, 114]⟩) (by rw [List.length_set]; exact hz) (by omega)
          have es : tP (zs.set i ⟨#[119, 114, 105, 116, 116, 101, 110, 32, 111, 118, 101, 114]⟩) = (tP zs).set (Int.toNat i) (.str ⟨#[119, 114, 105, 116, 116, 101, 110, 32, 111, 118, 101, 114]⟩) := by rw [tP, List.map_set]; rfl
          rw [es] at q
          exact q
        | zero =>
          intro i zs hz hd
          refine hR _ _ _ ?_
          (conv => whnf)
          refine ⟨rfl, ?_⟩
          (conv => whnf)
          refine splitB_f (decide_eq_false (by omega)) ?_
          (conv => whnf)
          intro R2 hR2
          have key2 : ∀ (d i : Nat) (ys : List Ins), ys.length = (finC l).C.length → i + d = (finC l).C.length → R2 [(1, .ref (.l 8) 0), (3, .p (.int .i64 i))] [] [.cells [.p (.int .u8 1), .p (.list 1 (tP (finC l).T)), .p (.list 3 (cP (finC l).C)), .p (.int .i64 (finC l).S)], .cells [.p (.int .u8 1), .view (.l 4) (finC l).T.length 1 (finC l).T.length, .view (.l 5) (finC l).C.length 3 (finC l).C.length, .p (.int .i64 (finC l).S)], .map (mP 0 (finC l).T), .cells [.p (.int .u8 1), .view (.l 4) (finC l).T.length 1 (finC l).T.length, .view (.l 5) (finC l).C.length 3 (finC l).C.length, .p (.int .i64 (finC l).S), .mapr (.l 2), .p (.int .i64 (finC l).h)], .buf (finC l).T.length 1 (tP zs), .buf (finC l).C.length 3 (cP ys), .cells [.p (.int .u8 1), .view (.l 4) (finC l).T.length 1 (finC l).T.length, .view (.l 5) (finC l).C.length 3 (finC l).C.length, .p (.int .i64 (finC l).S)], .cells [.p (.int .u8 1), .view (.l 4) (finC l).T.length 1 (finC l).T.length, .view (.l 5) (finC l).C.length 3 (finC l).C.length, .p (.int .i64 (finC l).S)], .cells [.p (.int .u8 1), .view (.l 4) (finC l).T.length 1 (finC l).T.length, .view (.l 5) (finC l).C.length 3 (finC l).C.length, .p (.int .i64 (finC l).S)]] := by
            intro d
            induction d with
            | succ d ih =>
              intro i ys hz2 hd
              refine hR2 _ _ _ ?_
              (conv => whnf)
              refine ⟨rfl, ?_⟩
              (conv => whnf)
              refine splitB_t (decide_eq_true (by omega)) ?_
              (conv => whnf)
              refine ⟨⟨rfl, by omega, by omega⟩, ?_⟩
              (conv => whnf)
              refine ⟨rfl, ?_⟩
              (conv => whnf)
              refine ⟨⟨rfl, rfl⟩, insP ys[i], cP_get (List.getElem?_eq_getElem (by omega)), ?_⟩
              (conv => whnf)
              rw [IntWalk.i64_in (i + 1) (by omega)]
              have q := ih (i + 1) (ys.set i ⟨99, 0, 0⟩) (by rw [List.length_set]; exact hz2) (by omega)
              have es : cP (ys.set i ⟨99, 0, 0⟩) = (cP ys).set (Int.toNat i) (insP ⟨99, 0, 0⟩) := by rw [cP, List.map_set]; rfl
              rw [es] at q
              exact q
            | zero =>
              intro i ys hz2 hd
              refine hR2 _ _ _ ?_
              (conv => whnf)
              refine ⟨rfl, ?_⟩
              (conv => whnf)
              refine splitB_f (decide_eq_false (by omega)) ?_
              repeat' ((conv => whnf); first | refine CallVC.pureF hcon rfl ?_ | refine CallVC.pureF hsame rfl ?_ | refine CallVC.pureF hkept rfl ?_ | refine CallVC.pureF hw rfl ?_ | refine splitB_t rfl ?_ | refine splitB_f rfl ?_ | exact ⟨rfl, rfl⟩)
          exact key2 (finC l).C.length 0 (finC l).C rfl (by omega)
      exact key (finC l).T.length 0 (finC l).T rfl (by omega)
    · have hR : ∃ n, condsR l = .tup [nilPg, .int .i64 n] := by
        rw [condsR]
        by_cases h0 : clsT l = 0
        · by_cases h1 : limB 1 (finC l)
          · exact ⟨3, by rw [if_pos h0, if_pos h1]⟩
          · exact absurd ⟨h0, h1⟩ hok
        · exact ⟨_, by rw [if_neg h0]⟩
      obtain ⟨n, hR⟩ := hR
      rw [hR] at hcon ⊢
      repeat' ((conv => whnf); first | refine CallVC.pureF hcon rfl ?_ | refine CallVC.pureF hns rfl ?_ | refine CallVC.pureF hkept rfl ?_ | refine CallVC.pureF hw rfl ?_ | refine splitB_t rfl ?_ | refine splitB_f rfl ?_ | refine splitB_f (bne_self_eq_false _) ?_ | refine CallVC.inline f14_ok ?_ | (intro R hR; refine hR _ _ _ ?_) | exact ⟨rfl, rfl⟩)

end Go.Proofs.Ythmlninecfjjgaa.AD

namespace Go.Proofs.Ythmlninecfjjgaa.AD
open Go.Proofs
set_option linter.unusedVariables false
set_option linter.unusedSimpArgs false
set_option maxRecDepth 100000

def tx (o : Int) : Prop := o = 1 ∨ o = 2 ∨ o = 3 ∨ o = 4
instance (o : Int) : Decidable (tx o) := inferInstanceAs (Decidable (_ ∨ _))
/-- How many texts are named, where each is named in its turn. -/
def walkT : List Ins → Nat → Option Nat
  | [], n => some n
  | x :: r, n => if tx x.op then (if x.a < 0 ∨ (n : Int) < x.a then none else walkT r (if x.a = n then n + 1 else n)) else walkT r n
theorem walkT_append (ys : List Ins) : ∀ (xs : List Ins) (n : Nat), walkT (xs ++ ys) n = (walkT xs n).bind (walkT ys)
  | [], n => rfl
  | x :: r, n => by
    simp only [List.cons_append, walkT]
    split
    · split
      · rfl
      · exact walkT_append ys r _
    · exact walkT_append ys r _
theorem walkT_le : ∀ (xs : List Ins) (n m : Nat), walkT xs n = some m → n ≤ m
  | [], n, m, h => by simp [walkT] at h; omega
  | x :: r, n, m, h => by
    simp only [walkT] at h
    split at h
    · split at h
      · cases h
      · have := walkT_le r _ m h
        split at this <;> omega
    · exact walkT_le r n m h
theorem walkT_set (v : Int) : ∀ (C : List Ins) (i n : Nat), (∀ x, C[i]? = some x → ¬ tx x.op) → walkT (setA i v C) n = walkT C n
  | [], i, n, _ => by simp [setA]
  | x :: r, 0, n, h => by
    have h1 := h x rfl
    simp only [setA, List.modify_zero_cons, walkT, if_neg h1]
  | x :: r, i + 1, n, h => by
    have ih := fun n => walkT_set v r i n fun y hy => h y (by simpa using hy)
    simp only [setA, List.modify_succ_cons, walkT] at ih ⊢
    simp only [ih]

def First (b : Bs) : Prop := 32768 < b.C.length ∨ (walkT b.C 0 = some b.T.length ∧ b.T.Nodup)
structure Ops (b b' : Bs) : Prop where
  len : b.C.length ≤ b'.C.length
  op : ∀ (i : Nat) (x : Ins), b.C[i]? = some x → ∃ y, b'.C[i]? = some y ∧ y.op = x.op
theorem Ops.refl (b : Bs) : Ops b b := ⟨Nat.le_refl _, fun i x h => ⟨x, h, rfl⟩⟩
theorem Ops.trans {a b c : Bs} (h : Ops a b) (k : Ops b c) : Ops a c := ⟨Nat.le_trans h.len k.len, fun i x hx => by
  obtain ⟨y, h1, h2⟩ := h.op i x hx
  obtain ⟨z, k1, k2⟩ := k.op i y h1
  exact ⟨z, k1, k2.trans h2⟩⟩
theorem ops_put (x : Ins) (b : Bs) : Ops b (putB x b) := ⟨(putB_len x b).1, fun i y hy => ⟨y, by
  simp only [putB]
  split
  · rw [List.getElem?_append_left (get_lt hy)]; exact hy
  · exact hy, rfl⟩⟩
theorem ops_named (o : Int) (s : ByteArray) (b : Bs) : Ops b (namedB o s b) := by
  rw [namedB]
  split
  · exact ops_put _ _
  · exact ⟨(ops_put ⟨o, b.T.length, 0⟩ { b with T := b.T ++ [s] }).len, (ops_put ⟨o, b.T.length, 0⟩ { b with T := b.T ++ [s] }).op⟩
theorem ops_land (n : Nat) (b : Bs) : Ops b (landB n b) := ⟨by rw [landB_len]; exact Nat.le_refl _, fun i x hx => by
  simp only [landB, setA, List.getElem?_modify, hx, Option.map_some]
  split
  · exact ⟨_, rfl, rfl⟩
  · exact ⟨_, rfl, rfl⟩⟩
theorem ops_ex (e : Ex) : ∀ b, Ops b (exB e b) := by
  induction e using Ex.ind with
  | h o t xs ih =>
    intro b
    match xs, ih with
    | [], _ => simp only [exB]; (repeat' split) <;> first | exact ops_named _ _ _ | exact ops_put _ _ | exact .refl _
    | [a], ih => simp only [exB]; exact (ih a (by simp) b).trans (ops_put _ _)
    | [a, c], ih =>
      have h1 := ih a (by simp) b
      simp only [exB]
      split
      · exact ((h1.trans (ops_put _ _)).trans (ih c (by simp) _)).trans (ops_land _ _)
      · exact (h1.trans (ih c (by simp) _)).trans (ops_put _ _)
    | _ :: _ :: _ :: _, _ => exact .refl _
theorem ops_end (n m : Nat) (b : Bs) : Ops b (endB n m b) := ((ops_land m b).trans (ops_put ⟨30, 0, 0⟩ _)).trans (ops_land n _)
theorem ops_tst (t : Ex) (b : Bs) : Ops b (tstB t b) := ((ops_put _ _).trans (ops_ex t _)).trans (ops_put _ _)
theorem ops_cl : (∀ c b, Ops b (clB c b)) ∧ ∀ l b, Ops b (clsB l b) := by
  have main : ∀ l : List Cl, (∀ c, c ∈ l → ∀ b, Ops b (clB c b)) → ∀ b, Ops b (clsB l b) := by
    intro l
    induction l with
    | nil => intro _ b; exact .refl _
    | cons c r ih => intro h b; exact (h c (by simp) b).trans (ih (fun d hd => h d (by simp [hd])) _)
  have one : ∀ c b, Ops b (clB c b) := by
    intro c
    induction c using Cl.ind with
    | h k t v l ih =>
      intro b
      have h1 := ops_tst t b
      simp only [clB]
      refine Ops.trans ?_ (ops_end _ _ _)
      (repeat' split) <;> first | exact h1.trans (ops_put _ _) | exact (h1.trans (ops_ex _ _)).trans (ops_put _ _) | exact h1.trans (main l ih _) | exact h1
  exact ⟨one, fun l => main l fun c _ => one c⟩

theorem first_put {x : Ins} {b : Bs} (hx : ¬ tx x.op) (h : First b) : First (putB x b) := by
  rcases h with h | ⟨h1, h2⟩
  · exact .inl (Nat.lt_of_lt_of_le h (putB_len x b).1)
  · by_cases hc : b.C.length ≤ 32768
    · refine .inr ⟨?_, h2⟩
      simp only [putB, if_pos hc]
      rw [walkT_append, h1]
      simp [walkT, hx]
    · exact .inl (Nat.lt_of_lt_of_le (by omega) (putB_len x b).1)
theorem tix_some {s : ByteArray} : ∀ {T : List ByteArray} {i : Nat}, tix s T = some i → T[i]? = some s
  | t :: r, i, h => by
    simp only [tix] at h
    split at h
    · rename_i e; cases h; rw [e]; rfl
    · cases hr : tix s r with
      | none => rw [hr] at h; cases h
      | some k => rw [hr] at h; simp at h; subst h; simpa using tix_some hr
theorem tix_none {s : ByteArray} : ∀ {T : List ByteArray}, tix s T = none → s ∉ T
  | [], _ => by simp
  | t :: r, h => by
    simp only [tix] at h
    split at h
    · cases h
    · rename_i e
      cases hr : tix s r with
      | none => simp [e, tix_none hr]
      | some k => rw [hr] at h; cases h
theorem first_named {o : Int} {s : ByteArray} {b : Bs} (ho : tx o) (h : First b) : First (namedB o s b) := by
  rcases h with h | ⟨h1, h2⟩
  · exact .inl (Nat.lt_of_lt_of_le h (ops_named o s b).len)
  · by_cases hc : b.C.length ≤ 32768
    · rw [namedB]
      cases hi : tix s b.T with
      | some i =>
        have hlt := get_lt (tix_some hi)
        refine .inr ⟨?_, h2⟩
        simp only [putB, if_pos hc]
        rw [walkT_append, h1]
        simp only [Option.bind_some, walkT, if_pos ho]
        rw [if_neg (by omega), if_neg (by omega)]
      | none =>
        have hn := tix_none hi
        refine .inr ⟨?_, ?_⟩
        · simp only [putB, if_pos hc]
          rw [walkT_append, h1]
          simp only [Option.bind_some, walkT, if_pos ho]
          rw [if_neg (by omega), if_pos trivial]
          simp
        · show (b.T ++ [s]).Nodup
          rw [List.nodup_append]
          refine ⟨h2, by simp, ?_⟩
          intro a ha c hc2 e
          simp at hc2
          subst hc2; subst e
          exact hn ha
    · exact .inl (Nat.lt_of_lt_of_le (by omega) (ops_named o s b).len)
theorem first_land {n : Nat} {b : Bs} (h : First b) (hx : b.C.length ≤ 32768 → ∃ x, b.C[n]? = some x ∧ ¬ tx x.op) : First (landB n b) := by
  rcases h with h | ⟨h1, h2⟩
  · exact .inl (by rw [landB_len]; exact h)
  · by_cases hc : b.C.length ≤ 32768
    · obtain ⟨x, g1, g2⟩ := hx hc
      have hlt := get_lt g1
      refine .inr ⟨?_, h2⟩
      simp only [landB]
      rw [Nat.min_eq_left (by omega), walkT_set _ _ _ _ fun y hy => by rw [g1] at hy; cases hy; exact g2]
      exact h1
    · exact .inl (by rw [landB_len]; omega)
theorem leap_at {x : Ins} {b b' : Bs} (h : Ops (putB x b) b') (hx : ¬ tx x.op) : b'.C.length ≤ 32768 → ∃ y, b'.C[b.C.length]? = some y ∧ ¬ tx y.op := by
  intro hc
  have h1 := (putB_len x b).1
  have h2 := h.len
  have hg : (putB x b).C[b.C.length]? = some x := by
    simp only [putB, if_pos (show b.C.length ≤ 32768 by omega)]
    simp
  obtain ⟨y, g1, g2⟩ := h.op _ _ hg
  exact ⟨y, g1, by rw [g2]; exact hx⟩
theorem insOf_not {o : Int} (h : arityI o = 1 ∨ arityI o = 2) : ¬ tx (insOf o) := by
  rcases h with h | h
  · rcases arity1 h with rfl | rfl | rfl | rfl | rfl <;> decide
  · rcases arity2 h with rfl | rfl | rfl | rfl | rfl | rfl | rfl | rfl | rfl | rfl | rfl | rfl | rfl | rfl | rfl | rfl <;> decide
theorem first_ex (e : Ex) : Shaped e → ∀ b, First b → First (exB e b) := by
  induction e using Ex.ind with
  | h o t xs ih =>
    intro hs b h
    rcases hs.args with ⟨h0, rfl⟩ | ⟨h0, a, rfl, ha⟩ | ⟨h0, a, c, rfl, ha, hc⟩
    · simp only [exB]
      rcases arity0 h0 with rfl | rfl | rfl | rfl | rfl | rfl <;> simp only [Int.reduceEq, if_true, if_false] <;> first | exact first_named (by decide) h | exact first_put (by show ¬ tx _; decide) h
    · simp only [exB]
      exact first_put (insOf_not (.inl h0)) (ih a (by simp) ha b h)
    · have h1 := ih a (by simp) ha b h
      have hn := insOf_not (.inr h0)
      simp only [exB]
      split
      · exact first_land (ih c (by simp) hc _ (first_put hn h1)) (leap_at (ops_ex c _) hn)
      · exact first_put hn (ih c (by simp) hc _ h1)
theorem first_cls : (∀ c, checkC c = true → ∀ b, First b → First (clB c b)) ∧ ∀ l, checkL l = true → ∀ b, First b → First (clsB l b) := by
  have main : ∀ l : List Cl, (∀ c, c ∈ l → checkC c = true → ∀ b, First b → First (clB c b)) → checkL l = true → ∀ b, First b → First (clsB l b) := by
    intro l
    induction l with
    | nil => intro _ _ b h; exact h
    | cons c r ih =>
      intro h hc b hb
      simp only [checkL, Bool.and_eq_true] at hc
      exact ih (fun d hd => h d (by simp [hd])) hc.2 _ (h c (by simp) hc.1 b hb)
  have one : ∀ c, checkC c = true → ∀ b, First b → First (clB c b) := by
    intro c
    induction c using Cl.ind with
    | h k t v l ih =>
      intro hc b hb
      obtain ⟨s1, s2, s3⟩ := checkC_parts hc
      have g1 : First (putB ⟨29, 0, 0⟩ b) := first_put (by show ¬ tx 29; decide) hb
      have g2 := first_ex t s1 _ g1
      have g3 : First (tstB t b) := first_put (by show ¬ tx 28; decide) g2
      have fin : ∀ b4, Ops (tstB t b) b4 → First b4 → First (endB b.C.length (exB t (putB ⟨29, 0, 0⟩ b)).C.length b4) := by
        intro b4 ho h4
        refine first_land (first_put (by show ¬ tx 30; decide) (first_land h4 (leap_at ho (by show ¬ tx 28; decide)))) (leap_at (x := ⟨29, 0, 0⟩) ?_ (by show ¬ tx 29; decide))
        exact ((((ops_ex t _).trans (ops_put _ _)).trans ho).trans (ops_land _ _)).trans (ops_put _ _)
      simp only [clB]
      by_cases k1 : k = 1
      · rw [if_pos k1]; exact fin _ (ops_put _ _) (first_put (by show ¬ tx 32; decide) g3)
      · rw [if_neg k1]
        by_cases k2 : k = 2
        · rw [if_pos k2]; exact fin _ ((ops_ex v _).trans (ops_put _ _)) (first_put (by show ¬ tx 31; decide) (first_ex v (s2 k2) _ g3))
        · rw [if_neg k2]
          by_cases k3 : k = 3
          · rw [if_pos k3]; exact fin _ (ops_cl.2 l _) (main l ih s3 _ g3)
          · rw [if_neg k3]; exact fin _ (.refl _) g3
  exact ⟨one, fun l => main l fun c _ => one c⟩
theorem first_fin (l : List Cl) (hck : checkL l = true) (h : ¬ limB 1 (finC l)) : walkT (finC l).C 0 = some (finC l).T.length ∧ (finC l).T.Nodup := by
  have h1 : First (finC l) := first_put (by show ¬ tx 33; decide) (first_cls.2 l hck b0 (.inr ⟨rfl, by simp [b0]⟩))
  rcases h1 with h1 | h1
  · exact absurd (.inl (by rw [errP, if_pos (.inl h1)])) h
  · exact h1

end Go.Proofs.Ythmlninecfjjgaa.AD

namespace Go.Proofs.Ythmlninecfjjgaa.AD
open Go.Proofs
set_option linter.unusedVariables false
set_option linter.unusedSimpArgs false
set_option maxRecDepth 100000

theorem ba_inj {a b : ByteArray} (h : a.toList = b.toList) : a = b := by
  have := ba_ext.1 h
  cases a; cases b
  simp at this
  exact congrArg _ this

set_option maxHeartbeats 4000000 in
theorem CompileTexts_spec (l : List Cl) (hl : (l.length : Int) ≤ 9223372036854775807) (hf : ∀ c, c ∈ l → FitsC c) : pureF Try.prog 6 [.p (.list 8 (encCs l))] (.p (.bool true)) := by
  refine pureF_of f6_ok fun H => ?_
  have hlw := Weights_spec l hl hf 20000 (by omega) (by omega)
  have hw := works_spec
  (conv => whnf)
  refine CallVC.pureF hlw rfl ?_
  (conv => whnf)
  refine splitB_dec (fun h => ?_) (fun h => ?_)
  · (conv => whnf)
    refine CallVC.pureF hw rfl ?_
    exact ⟨rfl, rfl⟩
  · obtain ⟨few1, few2, few3⟩ := fewDs_of l 20000 (by omega) (by omega)
    have hcon := Conds_pure l hl hf few3
    by_cases hok : clsT l = 0 ∧ ¬ limB 1 (finC l)
    · have hR : condsR l = .tup [encPg 1 (finC l).T (finC l).C (finC l).S, .int .i64 0] := by rw [condsR, if_pos hok.1, if_neg hok.2]
      have hck : checkL l = true := by
        have h0 := hok.1
        rw [clsT] at h0
        split at h0
        · assumption
        · cases h0
      obtain ⟨hBT, hBC⟩ := finC_bounds l hck few3
      obtain ⟨hwalk, hnd⟩ := first_fin l hck hok.2
      rw [hR] at hcon
      generalize (finC l).T = T at hcon hBT hwalk hnd
      generalize (finC l).C = C at hcon hBC hwalk
      generalize (finC l).S = S at hcon
      have hT := tP_len T
      have hC := cP_len C
      (conv => whnf)
      refine CallVC.pureF hcon rfl ?_
      (conv => whnf)
      refine splitB_f rfl ?_
      (conv => whnf)
      intro R hR
      have key : ∀ (rest : List Ins) (i n : Nat), C.drop i = rest → walkT rest n = some T.length → R [(3, .ref (.l 0) 0), (5, .p (.int .i64 n)), (6, .p (.int .i64 i))] H [.cells [.p (.int .u8 1), .p (.list 1 (tP T)), .p (.list 3 (cP C)), .p (.int .i64 S)]] := by
        intro rest
        induction rest with
        | nil =>
          intro i n hd hwk
          have hl := drop_nil hd
          have hnT : n = T.length := by simpa [walkT] using hwk
          subst hnT
          refine hR _ _ _ ?_
          (conv => whnf)
          refine splitB_f (decide_eq_false (by omega)) ?_
          (conv => whnf)
          intro R2 hR2
          have key2 : ∀ (d i : Nat), i + d = T.length → R2 [(3, .ref (.l 0) 0), (5, .p (.int .i64 T.length)), (8, .p (.int .i64 i))] H [.cells [.p (.int .u8 1), .p (.list 1 (tP T)), .p (.list 3 (cP C)), .p (.int .i64 S)]] := by
            intro d
            induction d with
            | zero =>
              intro i hi
              refine hR2 _ _ _ ?_
              (conv => whnf)
              refine splitB_f (decide_eq_false (by omega)) ?_
              repeat' ((conv => whnf); first | refine CallVC.pureF hw rfl ?_ | refine splitB_f rfl ?_ | refine splitB_t rfl ?_ | refine splitB_t (beq_iff_eq.2 (by rw [hT])) ?_ | exact ⟨rfl, rfl⟩)
            | succ d ihd =>
              intro i hi
              refine hR2 _ _ _ ?_
              (conv => whnf)
              refine splitB_t (decide_eq_true (by omega)) ?_
              (conv => whnf)
              refine splitB_dec (fun h300 => ?_) (fun h300 => ?_)
              · (conv => whnf)
                intro R3 hR3
                have key3 : ∀ (d k : Nat), k + d = i → R3 [(3, .ref (.l 0) 0), (5, .p (.int .i64 T.length)), (8, .p (.int .i64 i)), (9, .p (.int .i64 k))] H [.cells [.p (.int .u8 1), .p (.list 1 (tP T)), .p (.list 3 (cP C)), .p (.int .i64 S)]] := by
                  intro d
                  induction d with
                  | zero =>
                    intro k hk
                    refine hR3 _ _ _ ?_
                    (conv => whnf)
                    refine splitB_f (decide_eq_false (by omega)) ?_
                    (conv => whnf)
                    rw [IntWalk.i64_in _ (by omega)]
                    exact ihd (i + 1) (by omega)
                  | succ d ih3 =>
                    intro k hk
                    have g1 : T[i]? = some (T[i]'(by omega)) := List.getElem?_eq_getElem (by omega)
                    have g2 : T[k]? = some (T[k]'(by omega)) := List.getElem?_eq_getElem (by omega)
                    have hne : T[i]'(by omega) ≠ T[k]'(by omega) := fun e => by
                      exact (List.pairwise_iff_getElem.1 hnd) k i (by omega) (by omega) (by omega) e.symm
                    refine hR3 _ _ _ ?_
                    (conv => whnf)
                    refine splitB_t (decide_eq_true (by omega)) ?_
                    (conv => whnf)
                    refine ⟨rfl, _, ⟨by omega, tP_get g1⟩, ?_⟩
                    (conv => whnf)
                    refine ⟨rfl, _, ⟨by omega, tP_get g2⟩, ?_⟩
                    (conv => whnf)
                    refine splitB_f (beq_eq_false_iff_ne.2 fun e => hne (ba_inj e)) ?_
                    (conv => whnf)
                    rw [IntWalk.i64_in _ (by omega)]
                    exact ih3 (k + 1) (by omega)
                exact key3 i 0 (by omega)
              · repeat' ((conv => whnf); first | refine CallVC.pureF hw rfl ?_ | refine splitB_f rfl ?_ | refine splitB_t rfl ?_ | refine splitB_t (beq_iff_eq.2 (by rw [hT])) ?_ | exact ⟨rfl, rfl⟩)
          exact key2 T.length 0 (by omega)
        | cons x r ihr =>
          intro i n hd hwk
          obtain ⟨hg, hd', hi⟩ := drop_cons hd
          refine hR _ _ _ ?_
          (conv => whnf)
          refine splitB_t (decide_eq_true (by omega)) ?_
          (conv => whnf)
          refine ⟨rfl, insP x, ⟨by omega, cP_get hg⟩, ?_⟩
          simp only [walkT] at hwk
          obtain ⟨o, a, b⟩ := x
          by_cases htx : tx o
          · rw [if_pos (show tx (Ins.mk o a b).op from htx)] at hwk
            split at hwk
            · cases hwk
            · rename_i hle
              have hle1 : 0 ≤ a := by simp only [] at hle; omega
              have hle2 : a ≤ n := by simp only [] at hle; omega
              have hm := walkT_le _ _ _ hwk
              have hnT : n ≤ T.length := by split at hm <;> omega
              have haT : a < T.length := by
                simp only [] at hm
                split at hm <;> omega
              rcases htx with rfl | rfl | rfl | rfl
              all_goals
                repeat' ((conv => whnf); first | refine splitB_f rfl ?_ | refine splitB_t rfl ?_)
                refine splitB_f (decide_eq_false (by show ¬ a > (n : Int); omega)) ?_
                (conv => whnf)
                refine splitB_f (decide_eq_false (by show ¬ a ≥ ((tP T).length : Int); omega)) ?_
                (conv => whnf)
                refine splitB_eq (fun e => ?_) (fun e => ?_)
                · (conv => whnf)
                  rw [if_pos e] at hwk
                  rw [IntWalk.i64_in _ (by omega), IntWalk.i64_in _ (by omega)]
                  exact ihr (i + 1) (n + 1) hd' hwk
                · (conv => whnf)
                  rw [if_neg e] at hwk
                  rw [IntWalk.i64_in _ (by omega)]
                  exact ihr (i + 1) n hd' hwk
          · rw [if_neg (show ¬ tx (Ins.mk o a b).op from htx)] at hwk
            have n1 : o ≠ 1 := fun e => htx (.inl e)
            have n2 : o ≠ 2 := fun e => htx (.inr (.inl e))
            have n3 : o ≠ 3 := fun e => htx (.inr (.inr (.inl e)))
            have n4 : o ≠ 4 := fun e => htx (.inr (.inr (.inr e)))
            (conv => whnf)
            refine splitB_t (bne_iff_ne.2 n1) ?_
            (conv => whnf)
            refine splitB_t (bne_iff_ne.2 n2) ?_
            (conv => whnf)
            refine splitB_t (bne_iff_ne.2 n3) ?_
            (conv => whnf)
            refine splitB_t (bne_iff_ne.2 n4) ?_
            (conv => whnf)
            rw [IntWalk.i64_in _ (by omega)]
            exact ihr (i + 1) n hd' hwk
      exact key C 0 0 rfl hwalk
    · have hR : ∃ n, n ≠ 0 ∧ condsR l = .tup [nilPg, .int .i64 n] := by
        rw [condsR]
        by_cases h0 : clsT l = 0
        · by_cases h1 : limB 1 (finC l)
          · exact ⟨3, by omega, by rw [if_pos h0, if_pos h1]⟩
          · exact absurd ⟨h0, h1⟩ hok
        · exact ⟨_, h0, by rw [if_neg h0]⟩
      obtain ⟨n, hn, hR⟩ := hR
      rw [hR] at hcon
      (conv => whnf)
      refine CallVC.pureF hcon rfl ?_
      (conv => whnf)
      refine splitB_t (bne_iff_ne.2 hn) ?_
      repeat' ((conv => whnf); first | refine CallVC.pureF hw rfl ?_ | refine splitB_t rfl ?_ | refine splitB_f rfl ?_ | exact ⟨rfl, rfl⟩)

end Go.Proofs.Ythmlninecfjjgaa.AD

namespace Go.Proofs.Ythmlninecfjjgaa.AD
open Go.Proofs
set_option linter.unusedVariables false
set_option linter.unusedSimpArgs false
set_option maxRecDepth 100000

def addT (s : ByteArray) (T : List ByteArray) : List ByteArray := match tix s T with
  | some _ => T
  | none => T ++ [s]
def tixN (s : ByteArray) (T : List ByteArray) : Nat := (tix s T).getD T.length
def leafOp (o : Int) : Int := if o = 1 then 1 else if o = 2 then 4 else if o = 5 then 2 else 3
def leafX (o : Int) : Prop := o = 1 ∨ o = 2 ∨ o = 5 ∨ o = 7
instance (o : Int) : Decidable (leafX o) := inferInstanceAs (Decidable (_ ∨ _))
def isLog (o : Int) : Prop := o = 23 ∨ o = 24
instance (o : Int) : Decidable (isLog o) := inferInstanceAs (Decidable (_ ∨ _))

def en : Ex → Nat
  | .mk _ _ [] => 1
  | .mk _ _ [a] => en a + 1
  | .mk _ _ [a, c] => en a + en c + 1
  | .mk _ _ (_ :: _ :: _ :: _) => 0
def gT : Ex → List ByteArray → List ByteArray
  | .mk o t [], T => if leafX o then addT t T else T
  | .mk _ _ [a], T => gT a T
  | .mk _ _ [a, c], T => gT c (gT a T)
  | .mk _ _ (_ :: _ :: _ :: _), T => T
def gC : Ex → Nat → List ByteArray → List Ins
  | .mk o t [], p, T => if leafX o then [⟨leafOp o, tixN t T, 0⟩] else if o = 26 then [⟨24, 0, 0⟩] else [⟨25, 0, 0⟩]
  | .mk o _ [a], p, T => gC a p T ++ [⟨insOf o, 0, 0⟩]
  | .mk o _ [a, c], p, T => if isLog o then gC a p T ++ ⟨insOf o, (p + en a + 1 + en c : Nat), 0⟩ :: gC c (p + en a + 1) (gT a T) else gC a p T ++ (gC c (p + en a) (gT a T) ++ [⟨insOf o, 0, 0⟩])
  | .mk _ _ (_ :: _ :: _ :: _), _, _ => []
def gM : Ex → Int
  | .mk _ _ [] => 1
  | .mk _ _ [a] => gM a
  | .mk o _ [a, c] => if isLog o then max (gM a) (gM c) else max (gM a) (1 + gM c)
  | .mk _ _ (_ :: _ :: _ :: _) => 1

theorem en_cnt (e : Ex) : Shaped e → (en e : Int) = ecnt e := by
  induction e using Ex.ind with
  | h o t xs ih =>
    intro hs
    rcases hs.args with ⟨h0, rfl⟩ | ⟨h0, a, rfl, ha⟩ | ⟨h0, a, c, rfl, ha, hc⟩
    · rfl
    · have := ih a (by simp) ha
      simp only [en, ecnt, ecnts]; omega
    · have := ih a (by simp) ha
      have := ih c (by simp) hc
      simp only [en, ecnt, ecnts]; omega
theorem gC_len (e : Ex) : Shaped e → ∀ p T, (gC e p T).length = en e := by
  induction e using Ex.ind with
  | h o t xs ih =>
    intro hs p T
    rcases hs.args with ⟨h0, rfl⟩ | ⟨h0, a, rfl, ha⟩ | ⟨h0, a, c, rfl, ha, hc⟩
    · simp only [gC, en]; (repeat' split) <;> rfl
    · have := ih a (by simp) ha p T
      simp only [gC, en, List.length_append, List.length_singleton]; omega
    · have h1 := ih a (by simp) ha p T
      simp only [gC, en]
      split
      · have := ih c (by simp) hc (p + en a + 1) (gT a T)
        simp only [List.length_append, List.length_cons]; omega
      · have := ih c (by simp) hc (p + en a) (gT a T)
        simp only [List.length_append, List.length_singleton]; omega
theorem gM_range (e : Ex) : Shaped e → 1 ≤ gM e ∧ gM e ≤ en e := by
  induction e using Ex.ind with
  | h o t xs ih =>
    intro hs
    rcases hs.args with ⟨h0, rfl⟩ | ⟨h0, a, rfl, ha⟩ | ⟨h0, a, c, rfl, ha, hc⟩
    · simp [gM, en]
    · have := ih a (by simp) ha
      simp only [gM, en]; omega
    · have := ih a (by simp) ha
      have := ih c (by simp) hc
      simp only [gM, en]; split <;> omega

theorem putB_eq (x : Ins) (b : Bs) (h : b.C.length ≤ 32768) (h1 : -1000000 ≤ b.h + effI x) (h2 : b.h + effI x ≤ 1000000) : putB x b = ⟨b.T, b.C ++ [x], max b.S (b.h + effI x), b.h + effI x⟩ := by
  have e : IntKind.i64.wrap (b.h + effI x) = b.h + effI x := IntWalk.i64_in _ (by omega)
  simp only [putB, if_pos h, e]
  have : (if b.h + effI x > b.S then b.h + effI x else b.S) = max b.S (b.h + effI x) := by split <;> omega
  rw [this]
theorem namedB_eq (o : Int) (s : ByteArray) (b : Bs) (ho : effI ⟨o, 0, 0⟩ = 1) (h : b.C.length ≤ 32768) (h1 : 0 ≤ b.h) (h2 : b.h ≤ 900000) (ho2 : ∀ n, effI ⟨o, n, 0⟩ = 1) : namedB o s b = ⟨addT s b.T, b.C ++ [⟨o, tixN s b.T, 0⟩], max b.S (b.h + 1), b.h + 1⟩ := by
  rw [namedB, addT, tixN]
  cases tix s b.T with
  | some i => simp only [Option.getD_some]; rw [putB_eq _ _ h (by rw [ho2]; omega) (by rw [ho2]; omega), ho2]
  | none =>
    simp only [Option.getD_none]
    have := putB_eq ⟨o, b.T.length, 0⟩ { b with T := b.T ++ [s] } h (by rw [ho2]; show _ ≤ b.h + 1; omega) (by rw [ho2]; show b.h + 1 ≤ _; omega)
    rw [ho2] at this
    exact this

theorem setA_at (v : Int) (y : Ins) (ys : List Ins) : ∀ xs : List Ins, setA xs.length v (xs ++ y :: ys) = xs ++ ⟨y.op, v, y.b⟩ :: ys
  | [] => by simp [setA]
  | x :: r => by
    have := setA_at v y ys r
    simp only [setA, List.length_cons, List.cons_append, List.modify_succ_cons] at this ⊢
    rw [this]

theorem effIns {o : Int} : (arityI o = 1 → ∀ n, effI ⟨insOf o, n, 0⟩ = 0) ∧ (arityI o = 2 → ∀ n, effI ⟨insOf o, n, 0⟩ = -1) := by
  refine ⟨fun h n => ?_, fun h n => ?_⟩
  · rcases arity1 h with rfl | rfl | rfl | rfl | rfl <;> rfl
  · rcases arity2 h with rfl | rfl | rfl | rfl | rfl | rfl | rfl | rfl | rfl | rfl | rfl | rfl | rfl | rfl | rfl | rfl <;> rfl

theorem landB_eq (n : Nat) (T : List ByteArray) (X Y : List Ins) (x : Ins) (S h : Int) (hn : n = X.length) : landB n ⟨T, X ++ x :: Y, S, h⟩ = ⟨T, X ++ ⟨x.op, (X.length + 1 + Y.length : Nat), x.b⟩ :: Y, S, h⟩ := by
  subst hn
  simp only [landB, List.length_append, List.length_cons]
  rw [Nat.min_eq_left (by omega), setA_at]
  congr 4
  omega

theorem exB_gen (e : Ex) : Shaped e → ∀ b : Bs, b.C.length + en e ≤ 32768 → 0 ≤ b.h → b.h + en e ≤ 900000 → exB e b = ⟨gT e b.T, b.C ++ gC e b.C.length b.T, max b.S (b.h + gM e), b.h + 1⟩ := by
  induction e using Ex.ind with
  | h o t xs ih =>
    intro hs b hC h0' h1
    rcases hs.args with ⟨h0, rfl⟩ | ⟨h0, a, rfl, ha⟩ | ⟨h0, a, c, rfl, ha, hc⟩
    · simp only [en] at hC h1
      have hp : ∀ x : Ins, effI x = 1 → putB x b = ⟨b.T, b.C ++ [x], max b.S (b.h + 1), b.h + 1⟩ := fun x hx => by
        have := putB_eq x b (by omega) (by omega) (by omega)
        rw [hx] at this; exact this
      have hn : ∀ o, (∀ n, effI ⟨o, n, 0⟩ = 1) → namedB o t b = ⟨addT t b.T, b.C ++ [⟨o, tixN t b.T, 0⟩], max b.S (b.h + 1), b.h + 1⟩ := fun o ho => namedB_eq o t b (ho 0) (by omega) h0' (by omega) ho
      simp only [exB, gT, gC, gM]
      rcases arity0 h0 with rfl | rfl | rfl | rfl | rfl | rfl
      · exact hn 1 fun _ => rfl
      · exact hn 4 fun _ => rfl
      · exact hn 2 fun _ => rfl
      · exact hn 3 fun _ => rfl
      · exact hp ⟨24, 0, 0⟩ rfl
      · exact hp ⟨25, 0, 0⟩ rfl
    · simp only [en] at hC h1
      have iha := ih a (by simp) ha b (by omega) h0' (by omega)
      have hl := gC_len a ha b.C.length b.T
      have hm := gM_range a ha
      have he := effIns.1 h0 0
      simp only [exB, gT, gC, gM, iha]
      rw [putB_eq _ _ (by simp only [List.length_append]; omega) (by (try simp only [he]); omega) (by (try simp only [he]); omega)]
      simp only [he, List.append_assoc]
      congr 1
      · omega
      · omega
    · simp only [en] at hC h1
      have iha := ih a (by simp) ha b (by omega) h0' (by omega)
      have hl := gC_len a ha b.C.length b.T
      have hm := gM_range a ha
      have hm2 := gM_range c hc
      have he := effIns.2 h0 0
      simp only [exB, gT, gC, gM, iha]
      by_cases hlog : isLog o
      · rw [if_pos (show o = 23 ∨ o = 24 from hlog), if_pos hlog, if_pos hlog]
        rw [putB_eq _ _ (by simp only [List.length_append]; omega) (by (try simp only [he]); omega) (by (try simp only [he]); omega)]
        rw [ih c (by simp) hc _ (by simp only [List.length_append, List.length_singleton]; omega) (by (try simp only [he]); omega) (by (try simp only [he]); omega)]
        have hl2 := gC_len c hc (b.C.length + en a + 1) (gT a b.T)
        simp only [he, List.length_append, List.length_singleton, hl]
        have ea : b.C ++ gC a b.C.length b.T ++ [⟨insOf o, 0, 0⟩] ++ gC c (b.C.length + en a + 1) (gT a b.T) = (b.C ++ gC a b.C.length b.T) ++ (⟨insOf o, 0, 0⟩ : Ins) :: gC c (b.C.length + en a + 1) (gT a b.T) := by simp
        rw [ea, landB_eq _ _ _ _ _ _ _ (by simp only [List.length_append, hl])]
        simp only [List.length_append, hl, hl2, List.append_assoc]
        congr 1
        · omega
        · omega
      · rw [if_neg (show ¬ (o = 23 ∨ o = 24) from hlog), if_neg hlog, if_neg hlog]
        rw [ih c (by simp) hc _ (by simp only [List.length_append]; omega) (by (try simp only [he]); omega) (by (try simp only [he]); omega)]
        have hl2 := gC_len c hc (b.C.length + en a) (gT a b.T)
        simp only [List.length_append, hl]
        rw [putB_eq _ _ (by simp only [List.length_append]; omega) (by (try simp only [he]); omega) (by (try simp only [he]); omega)]
        simp only [he, List.append_assoc]
        congr 1
        · omega
        · omega

end Go.Proofs.Ythmlninecfjjgaa.AD

namespace Go.Proofs.Ythmlninecfjjgaa.AD
open Go.Proofs
set_option linter.unusedVariables false
set_option linter.unusedSimpArgs false
set_option maxRecDepth 100000

mutual
def cn : Cl → Nat
  | .mk k t v l => 3 + en t + (if k = 1 then 1 else if k = 2 then en v + 1 else if k = 3 then cns l else 0)
def cns : List Cl → Nat
  | [] => 0
  | c :: r => cn c + cns r
end
mutual
def gTc : Cl → List ByteArray → List ByteArray
  | .mk k t v l, T => if k = 2 then gT v (gT t T) else if k = 3 then gTcs l (gT t T) else gT t T
def gTcs : List Cl → List ByteArray → List ByteArray
  | [], T => T
  | c :: r, T => gTcs r (gTc c T)
end
mutual
def gCc : Cl → Nat → List ByteArray → List Ins
  | .mk k t v l, p, T => ⟨29, (p + (3 + en t + (if k = 1 then 1 else if k = 2 then en v + 1 else if k = 3 then cns l else 0)) : Nat), 0⟩ :: (gC t (p + 1) T ++
      ⟨28, (p + (2 + en t + (if k = 1 then 1 else if k = 2 then en v + 1 else if k = 3 then cns l else 0)) : Nat), 0⟩ ::
      ((if k = 1 then [⟨32, 0, 0⟩] else if k = 2 then gC v (p + 2 + en t) (gT t T) ++ [⟨31, 0, 0⟩] else if k = 3 then gCcs l (p + 2 + en t) (gT t T) else []) ++ [⟨30, 0, 0⟩]))
def gCcs : List Cl → Nat → List ByteArray → List Ins
  | [], p, T => []
  | c :: r, p, T => gCc c p T ++ gCcs r (p + cn c) (gTc c T)
end
mutual
def gMc : Cl → Int
  | .mk k t v l => max (1 + gM t) (if k = 2 then 1 + gM v else if k = 3 then 1 + gMcs l else 0)
def gMcs : List Cl → Int
  | [] => 0
  | c :: r => max (gMc c) (gMcs r)
end

theorem gCc_len : (∀ c, checkC c = true → ∀ p T, (gCc c p T).length = cn c) ∧ ∀ l, checkL l = true → ∀ p T, (gCcs l p T).length = cns l := by
  have main : ∀ l : List Cl, (∀ c, c ∈ l → checkC c = true → ∀ p T, (gCc c p T).length = cn c) → checkL l = true → ∀ p T, (gCcs l p T).length = cns l := by
    intro l
    induction l with
    | nil => intro _ _ p T; rfl
    | cons c r ih =>
      intro h hc p T
      simp only [checkL, Bool.and_eq_true] at hc
      have h1 := h c (by simp) hc.1 p T
      have h2 := ih (fun d hd => h d (by simp [hd])) hc.2 (p + cn c) (gTc c T)
      simp only [gCcs, cns, List.length_append]; omega
  have one : ∀ c, checkC c = true → ∀ p T, (gCc c p T).length = cn c := by
    intro c
    induction c using Cl.ind with
    | h k t v l ih =>
      intro hc p T
      obtain ⟨s1, s2, s3⟩ := checkC_parts hc
      have h1 := gC_len t s1 (p + 1) T
      simp only [gCc, cn, List.length_cons, List.length_append, List.length_nil]
      by_cases k1 : k = 1
      · simp only [if_pos k1, List.length_cons, List.length_nil]; omega
      · by_cases k2 : k = 2
        · have h2 := gC_len v (s2 k2) (p + 2 + en t) (gT t T)
          simp only [if_neg k1, if_pos k2, List.length_append, List.length_cons, List.length_nil]; omega
        · by_cases k3 : k = 3
          · have h2 := main l ih s3 (p + 2 + en t) (gT t T)
            simp only [if_neg k1, if_neg k2, if_pos k3]; omega
          · simp only [if_neg k1, if_neg k2, if_neg k3, List.length_nil]; omega
  exact ⟨one, fun l => main l fun c _ => one c⟩
theorem gMc_range : (∀ c, checkC c = true → 2 ≤ gMc c ∧ gMc c ≤ cn c) ∧ ∀ l, checkL l = true → 0 ≤ gMcs l ∧ gMcs l ≤ cns l := by
  have main : ∀ l : List Cl, (∀ c, c ∈ l → checkC c = true → 2 ≤ gMc c ∧ gMc c ≤ cn c) → checkL l = true → 0 ≤ gMcs l ∧ gMcs l ≤ cns l := by
    intro l
    induction l with
    | nil => intro _ _; simp [gMcs, cns]
    | cons c r ih =>
      intro h hc
      simp only [checkL, Bool.and_eq_true] at hc
      have h1 := h c (by simp) hc.1
      have h2 := ih (fun d hd => h d (by simp [hd])) hc.2
      simp only [gMcs, cns]; omega
  have one : ∀ c, checkC c = true → 2 ≤ gMc c ∧ gMc c ≤ cn c := by
    intro c
    induction c using Cl.ind with
    | h k t v l ih =>
      intro hc
      obtain ⟨s1, s2, s3⟩ := checkC_parts hc
      have h1 := gM_range t s1
      simp only [gMc, cn]
      by_cases k1 : k = 1
      · simp only [if_pos k1, if_neg (show ¬ k = 2 by omega), if_neg (show ¬ k = 3 by omega)]; omega
      · by_cases k2 : k = 2
        · have h2 := gM_range v (s2 k2)
          simp only [if_neg k1, if_pos k2]; omega
        · by_cases k3 : k = 3
          · have h2 := main l ih s3
            simp only [if_neg k1, if_neg k2, if_pos k3]; omega
          · simp only [if_neg k1, if_neg k2, if_neg k3]; omega
  exact ⟨one, fun l => main l fun c _ => one c⟩

theorem bs_ext {b b' : Bs} (h1 : b.T = b'.T) (h2 : b.C = b'.C) (h3 : b.S = b'.S) (h4 : b.h = b'.h) : b = b' := by
  cases b; cases b'; simp at h1 h2 h3 h4; subst h1; subst h2; subst h3; subst h4; rfl

theorem endB_eq (T : List ByteArray) (X Y Z : List Ins) (x y : Ins) (S h : Int) (n m : Nat) (hn : n = X.length) (hm : m = X.length + 1 + Y.length) (hl : X.length + Y.length + Z.length + 3 ≤ 32768) (h0 : 0 ≤ h) (h1 : h ≤ 900000) (hS : h ≤ S) (ho : x.b = 0 ∧ y.b = 0) :
    endB n m ⟨T, X ++ x :: (Y ++ y :: Z), S, h + 1⟩ = ⟨T, X ++ ⟨x.op, (X.length + Y.length + Z.length + 3 : Nat), 0⟩ :: (Y ++ ⟨y.op, (X.length + Y.length + Z.length + 2 : Nat), 0⟩ :: (Z ++ [⟨30, 0, 0⟩])), S, h⟩ := by
  obtain ⟨o1, o2⟩ := ho
  have e1 : X ++ x :: (Y ++ y :: Z) = (X ++ x :: Y) ++ y :: Z := by simp
  have e2 := landB_eq m T (X ++ x :: Y) Z y S (h + 1) (by rw [hm]; simp; omega)
  rw [endB, e1, e2]
  rw [putB_eq _ _ (by simp only [List.length_append, List.length_cons]; omega) (by show _ ≤ h + 1 + -1; omega) (by show h + 1 + -1 ≤ _; omega)]
  have e3 : ∀ w : Ins, (X ++ x :: Y) ++ w :: Z ++ [(⟨30, 0, 0⟩ : Ins)] = X ++ x :: (Y ++ w :: (Z ++ [⟨30, 0, 0⟩])) := fun w => by simp
  have e4 : effI ⟨30, 0, 0⟩ = -1 := rfl
  simp only [e3, e4]
  rw [landB_eq n T X _ x _ _ hn]
  refine bs_ext rfl ?_ ?_ ?_
  · simp only [o1, o2, List.length_append, List.length_cons, List.length_nil]
    congr 2
    · congr 1; omega
    · congr 2; congr 1; omega
  · show max S (h + 1 + -1) = S; omega
  · show h + 1 + -1 = h; omega

theorem clB_gen : (∀ c, checkC c = true → ∀ b : Bs, b.C.length + cn c ≤ 32768 → 0 ≤ b.h → b.h ≤ b.S → b.h + cn c ≤ 900000 → clB c b = ⟨gTc c b.T, b.C ++ gCc c b.C.length b.T, max b.S (b.h + gMc c), b.h⟩) ∧
    ∀ l, checkL l = true → ∀ b : Bs, b.C.length + cns l ≤ 32768 → 0 ≤ b.h → b.h ≤ b.S → b.h + cns l ≤ 900000 → clsB l b = ⟨gTcs l b.T, b.C ++ gCcs l b.C.length b.T, max b.S (b.h + gMcs l), b.h⟩ := by
  have main : ∀ l : List Cl, (∀ c, c ∈ l → checkC c = true → ∀ b : Bs, b.C.length + cn c ≤ 32768 → 0 ≤ b.h → b.h ≤ b.S → b.h + cn c ≤ 900000 → clB c b = ⟨gTc c b.T, b.C ++ gCc c b.C.length b.T, max b.S (b.h + gMc c), b.h⟩) →
      checkL l = true → ∀ b : Bs, b.C.length + cns l ≤ 32768 → 0 ≤ b.h → b.h ≤ b.S → b.h + cns l ≤ 900000 → clsB l b = ⟨gTcs l b.T, b.C ++ gCcs l b.C.length b.T, max b.S (b.h + gMcs l), b.h⟩ := by
    intro l
    induction l with
    | nil =>
      intro _ _ b _ h0 h1 _
      refine bs_ext rfl ?_ ?_ rfl
      · simp [clsB, gCcs]
      · show b.S = max b.S (b.h + 0); omega
    | cons c r ih =>
      intro h hc b hC h0 h1 h2
      simp only [checkL, Bool.and_eq_true] at hc
      simp only [cns] at hC h2
      have g1 := h c (by simp) hc.1 b (by omega) h0 h1 (by omega)
      have hl := gCc_len.1 c hc.1 b.C.length b.T
      have hm := gMc_range.1 c hc.1
      simp only [clsB]
      have g2 := ih (fun d hd => h d (by simp [hd])) hc.2 ⟨gTc c b.T, b.C ++ gCc c b.C.length b.T, max b.S (b.h + gMc c), b.h⟩ (by simp only [List.length_append, hl]; omega) h0 (by show b.h ≤ max _ _; omega) (by show b.h + _ ≤ _; omega)
      rw [g1, g2]
      simp only [List.length_append, hl, gTcs, gCcs, gMcs, List.append_assoc]
      congr 1
      omega
  have one : ∀ c, checkC c = true → ∀ b : Bs, b.C.length + cn c ≤ 32768 → 0 ≤ b.h → b.h ≤ b.S → b.h + cn c ≤ 900000 → clB c b = ⟨gTc c b.T, b.C ++ gCc c b.C.length b.T, max b.S (b.h + gMc c), b.h⟩ := by
    intro c
    induction c using Cl.ind with
    | h k t v l ih =>
      intro hc b hC h0 hS h1
      obtain ⟨s1, s2, s3⟩ := checkC_parts hc
      simp only [cn] at hC h1
      have ht := gM_range t s1
      have lt := gC_len t s1 (b.C.length + 1) b.T
      -- behind the test
      have e1 : putB ⟨29, 0, 0⟩ b = ⟨b.T, b.C ++ [⟨29, 0, 0⟩], max b.S (b.h + 1), b.h + 1⟩ := putB_eq ⟨29, 0, 0⟩ b (by omega) (by show _ ≤ b.h + 1; omega) (by show b.h + 1 ≤ _; omega)
      have e2 : exB t (putB ⟨29, 0, 0⟩ b) = ⟨gT t b.T, b.C ++ ⟨29, 0, 0⟩ :: gC t (b.C.length + 1) b.T, max b.S (b.h + 1 + gM t), b.h + 2⟩ := by
        rw [e1, exB_gen t s1 _ (by simp only [List.length_append, List.length_singleton]; omega) (by simp only []; omega) (by simp only []; omega)]
        refine bs_ext rfl ?_ ?_ ?_
        · simp
        · simp only []; omega
        · simp only []; omega
      have e3 : tstB t b = ⟨gT t b.T, b.C ++ ⟨29, 0, 0⟩ :: (gC t (b.C.length + 1) b.T ++ [⟨28, 0, 0⟩]), max b.S (b.h + 1 + gM t), b.h + 1⟩ := by
        rw [tstB, e2, putB_eq _ _ (by simp only [List.length_append, List.length_cons]; omega) (by show _ ≤ b.h + 2 + -1; omega) (by show b.h + 2 + -1 ≤ _; omega)]
        have e4 : effI ⟨28, 0, 0⟩ = -1 := rfl
        refine bs_ext rfl ?_ ?_ ?_
        · simp
        · simp only [e4]; omega
        · simp only [e4]; omega
      have lm : (exB t (putB ⟨29, 0, 0⟩ b)).C.length = b.C.length + 1 + (gC t (b.C.length + 1) b.T).length := by
        rw [e2]; simp only [List.length_append, List.length_cons]; omega
      have fin : ∀ (T : List ByteArray) (Z : List Ins) (S : Int), b.C.length + en t + Z.length + 3 ≤ 32768 → b.h ≤ S → endB b.C.length (exB t (putB ⟨29, 0, 0⟩ b)).C.length ⟨T, b.C ++ ⟨29, 0, 0⟩ :: (gC t (b.C.length + 1) b.T ++ ⟨28, 0, 0⟩ :: Z), S, b.h + 1⟩ =
          ⟨T, b.C ++ ⟨29, (b.C.length + en t + Z.length + 3 : Nat), 0⟩ :: (gC t (b.C.length + 1) b.T ++ ⟨28, (b.C.length + en t + Z.length + 2 : Nat), 0⟩ :: (Z ++ [⟨30, 0, 0⟩])), S, b.h⟩ := by
        intro T Z S hZ hSh
        have := endB_eq T b.C (gC t (b.C.length + 1) b.T) Z ⟨29, 0, 0⟩ ⟨28, 0, 0⟩ S b.h _ _ rfl lm (by rw [lt]; omega) h0 (by omega) hSh ⟨rfl, rfl⟩
        rw [lt] at this
        exact this
      simp only [clB, gTc, gCc, gMc]
      by_cases k1 : k = 1
      · subst k1
        simp only [if_true, Int.reduceEq, if_false] at hC h1 ⊢
        have e5 : putB ⟨32, 0, 0⟩ (tstB t b) = ⟨gT t b.T, b.C ++ ⟨29, 0, 0⟩ :: (gC t (b.C.length + 1) b.T ++ ⟨28, 0, 0⟩ :: [⟨32, 0, 0⟩]), max b.S (b.h + 1 + gM t), b.h + 1⟩ := by
          rw [e3, putB_eq _ _ (by simp only [List.length_append, List.length_cons, List.length_nil]; omega) (by show _ ≤ b.h + 1 + 0; omega) (by show b.h + 1 + 0 ≤ _; omega)]
          have e4 : effI ⟨32, 0, 0⟩ = 0 := rfl
          refine bs_ext rfl ?_ ?_ ?_
          · simp
          · simp only [e4]; omega
          · simp only [e4]; omega
        rw [e5, fin _ _ _ (by simp only [List.length_cons, List.length_nil]; omega) (by omega)]
        refine bs_ext rfl ?_ ?_ rfl
        · simp only [List.length_cons, List.length_nil]
          congr 2
          · congr 1; omega
          · congr 2; congr 1; omega
        · simp only []; omega
      · rw [if_neg k1] at hC h1 ⊢
        simp only [if_neg k1]
        by_cases k2 : k = 2
        · simp only [if_pos k2] at hC h1 ⊢
          have hv := gM_range v (s2 k2)
          have lv := gC_len v (s2 k2) (b.C.length + 2 + en t) (gT t b.T)
          have e5 : putB ⟨31, 0, 0⟩ (exB v (tstB t b)) = ⟨gT v (gT t b.T), b.C ++ ⟨29, 0, 0⟩ :: (gC t (b.C.length + 1) b.T ++ ⟨28, 0, 0⟩ :: (gC v (b.C.length + 2 + en t) (gT t b.T) ++ [⟨31, 0, 0⟩])), max b.S (max (b.h + 1 + gM t) (b.h + 1 + gM v)), b.h + 1⟩ := by
            have ll : (b.C ++ (⟨29, 0, 0⟩ : Ins) :: (gC t (b.C.length + 1) b.T ++ [⟨28, 0, 0⟩])).length = b.C.length + 2 + en t := by simp only [List.length_append, List.length_cons, List.length_nil, lt]; omega
            rw [e3, exB_gen v (s2 k2) _ (by simp only [ll]; omega) (by simp only []; omega) (by simp only []; omega)]
            simp only [ll]
            rw [putB_eq _ _ (by simp only [List.length_append, ll, lv]; omega) (by show _ ≤ b.h + 1 + 1 + -1; omega) (by show b.h + 1 + 1 + -1 ≤ _; omega)]
            have e4 : effI ⟨31, 0, 0⟩ = -1 := rfl
            refine bs_ext rfl ?_ ?_ ?_
            · simp
            · simp only [e4]; omega
            · simp only [e4]; omega
          rw [e5, fin _ _ _ (by simp only [List.length_append, List.length_cons, List.length_nil, lv]; omega) (by omega)]
          refine bs_ext rfl ?_ ?_ rfl
          · simp only [List.length_append, List.length_cons, List.length_nil, lv]
            congr 2
            · congr 1; omega
            · congr 2; congr 1; omega
          · simp only []; omega
        · have k3 : k = 3 := by have := k_of hc; omega
          simp only [if_neg k2, if_pos k3] at hC h1 ⊢
          have hv := gMc_range.2 l s3
          have lv := gCc_len.2 l s3 (b.C.length + 2 + en t) (gT t b.T)
          have e5 : clsB l (tstB t b) = ⟨gTcs l (gT t b.T), b.C ++ ⟨29, 0, 0⟩ :: (gC t (b.C.length + 1) b.T ++ ⟨28, 0, 0⟩ :: gCcs l (b.C.length + 2 + en t) (gT t b.T)), max b.S (max (b.h + 1 + gM t) (b.h + 1 + gMcs l)), b.h + 1⟩ := by
            have ll : (b.C ++ (⟨29, 0, 0⟩ : Ins) :: (gC t (b.C.length + 1) b.T ++ [⟨28, 0, 0⟩])).length = b.C.length + 2 + en t := by simp only [List.length_append, List.length_cons, List.length_nil, lt]; omega
            rw [e3, main l ih s3 _ (by simp only [ll]; omega) (by simp only []; omega) (by simp only []; omega) (by simp only []; omega)]
            simp only [ll]
            refine bs_ext rfl ?_ ?_ rfl
            · simp
            · simp only []; omega
          rw [e5, fin _ _ _ (by simp only [lv]; omega) (by omega)]
          refine bs_ext rfl ?_ ?_ rfl
          · simp only [lv]
            congr 2
            · congr 1; omega
            · congr 2; congr 1; omega
          · simp only []; omega
  exact ⟨one, fun l => main l fun c _ => one c⟩

end Go.Proofs.Ythmlninecfjjgaa.AD

namespace Go.Proofs.Ythmlninecfjjgaa.AD
open Go.Proofs
set_option linter.unusedVariables false
set_option linter.unusedSimpArgs false
set_option maxRecDepth 100000

def isLeap (o : Int) : Prop := o = 26 ∨ o = 27 ∨ o = 28 ∨ o = 29
instance (o : Int) : Decidable (isLeap o) := inferInstanceAs (Decidable (_ ∨ _))
structure MvI (n : Nat) (Tq Ta : List ByteArray) (x y : Ins) : Prop where
  op : y.op = x.op
  b : y.b = x.b
  leap : isLeap x.op → y.a = x.a + n
  text : tx x.op → ∃ (i j : Nat) (s : ByteArray), x.a = i ∧ y.a = j ∧ Tq[i]? = some s ∧ tix s Ta = some j
  other : ¬ isLeap x.op → ¬ tx x.op → y.a = x.a
inductive Mv (n : Nat) (Tq Ta : List ByteArray) : List Ins → List Ins → Prop
  | nil : Mv n Tq Ta [] []
  | cons (x y : Ins) (r r' : List Ins) : MvI n Tq Ta x y → Mv n Tq Ta r r' → Mv n Tq Ta (x :: r) (y :: r')
theorem Mv.append {n : Nat} {Tq Ta : List ByteArray} {a a' b b' : List Ins} (h : Mv n Tq Ta a a') (k : Mv n Tq Ta b b') : Mv n Tq Ta (a ++ b) (a' ++ b') := by
  induction h with
  | nil => exact k
  | cons x y r r' h1 _ ih => exact .cons _ _ _ _ h1 ih
theorem Mv.len {n : Nat} {Tq Ta : List ByteArray} {a a' : List Ins} (h : Mv n Tq Ta a a') : a'.length = a.length := by
  induction h with
  | nil => rfl
  | cons x y r r' _ _ ih => simp [ih]
theorem Mv.get {n : Nat} {Tq Ta : List ByteArray} {a a' : List Ins} (h : Mv n Tq Ta a a') : ∀ {i : Nat} {x : Ins}, a[i]? = some x → ∃ y, a'[i]? = some y ∧ MvI n Tq Ta x y := by
  induction h with
  | nil => intro i x hx; simp at hx
  | cons x y r r' h1 _ ih =>
    intro i z hz
    cases i with
    | zero => simp at hz; subst hz; exact ⟨y, rfl, h1⟩
    | succ i => exact ih (by simpa using hz)
theorem MvI.plain {n : Nat} {Tq Ta : List ByteArray} (o b : Int) (h1 : ¬ isLeap o) (h2 : ¬ tx o) : MvI n Tq Ta ⟨o, 0, b⟩ ⟨o, 0, b⟩ := ⟨rfl, rfl, fun h => absurd h h1, fun h => absurd h h2, fun _ _ => rfl⟩
theorem MvI.to {n : Nat} {Tq Ta : List ByteArray} (o : Int) (k k' : Nat) (h1 : isLeap o) (h2 : ¬ tx o) (h3 : k' = k + n) : MvI n Tq Ta ⟨o, (k : Nat), 0⟩ ⟨o, (k' : Nat), 0⟩ := ⟨rfl, rfl, fun _ => by subst h3; simp, fun h => absurd h h2, fun h => absurd h1 h⟩

theorem tix_ext {s : ByteArray} {X : List ByteArray} : ∀ {T : List ByteArray} {j : Nat}, tix s T = some j → tix s (T ++ X) = some j
  | t :: r, j, h => by
    simp only [tix, List.cons_append] at h ⊢
    split
    · rename_i e; rw [if_pos e] at h; exact h
    · rename_i e
      rw [if_neg e] at h
      cases hr : tix s r with
      | none => rw [hr] at h; cases h
      | some k => rw [hr] at h; rw [tix_ext hr]; exact h
theorem tix_last {s : ByteArray} : ∀ {T : List ByteArray}, tix s T = none → tix s (T ++ [s]) = some T.length
  | [], _ => by simp [tix]
  | t :: r, h => by
    simp only [tix, List.cons_append] at h ⊢
    split
    · rename_i e; rw [if_pos e] at h; cases h
    · rename_i e
      rw [if_neg e] at h
      cases hr : tix s r with
      | none => rw [tix_last hr]; simp
      | some k => rw [hr] at h; cases h
theorem addT_spec (t : ByteArray) (T : List ByteArray) : (∃ X, addT t T = T ++ X) ∧ (addT t T)[tixN t T]? = some t ∧ tix t (addT t T) = some (tixN t T) := by
  rw [addT, tixN]
  cases h : tix t T with
  | some i => exact ⟨⟨[], by simp⟩, tix_some h, h⟩
  | none => exact ⟨⟨[t], rfl⟩, by simp, tix_last h⟩
theorem gT_ext (e : Ex) : Shaped e → ∀ T, ∃ X, gT e T = T ++ X := by
  induction e using Ex.ind with
  | h o t xs ih =>
    intro hs T
    rcases hs.args with ⟨h0, rfl⟩ | ⟨h0, a, rfl, ha⟩ | ⟨h0, a, c, rfl, ha, hc⟩
    · simp only [gT]
      split
      · exact (addT_spec t T).1
      · exact ⟨[], by simp⟩
    · exact ih a (by simp) ha T
    · obtain ⟨X, hX⟩ := ih a (by simp) ha T
      obtain ⟨Y, hY⟩ := ih c (by simp) hc (gT a T)
      exact ⟨X ++ Y, by simp only [gT]; rw [hY, hX, List.append_assoc]⟩
theorem leaf_kind (o : Int) : tx (leafOp o) ∧ ¬ isLeap (leafOp o) := by
  simp only [leafOp]
  (repeat' split) <;> decide
theorem insOf_kind {o : Int} (h : arityI o = 1 ∨ arityI o = 2) : ¬ tx (insOf o) ∧ (isLog o → isLeap (insOf o)) ∧ (¬ isLog o → ¬ isLeap (insOf o)) := by
  refine ⟨insOf_not h, ?_⟩
  rcases h with h | h
  · rcases arity1 h with rfl | rfl | rfl | rfl | rfl <;> decide
  · rcases arity2 h with rfl | rfl | rfl | rfl | rfl | rfl | rfl | rfl | rfl | rfl | rfl | rfl | rfl | rfl | rfl | rfl <;> decide

theorem mv_ex (e : Ex) : Shaped e → ∀ (n p : Nat) (T T2 Tq Ta : List ByteArray), (∃ X, Tq = gT e T ++ X) → (∃ X, Ta = gT e T2 ++ X) → Mv n Tq Ta (gC e p T) (gC e (p + n) T2) := by
  induction e using Ex.ind with
  | h o t xs ih =>
    intro hs n p T T2 Tq Ta hq ha'
    rcases hs.args with ⟨h0, rfl⟩ | ⟨h0, a, rfl, ha⟩ | ⟨h0, a, c, rfl, ha, hc⟩
    · simp only [gT, gC] at hq ha' ⊢
      by_cases hl : leafX o
      · rw [if_pos hl] at hq ha' ⊢
        rw [if_pos hl]
        obtain ⟨X, rfl⟩ := hq
        obtain ⟨Y, rfl⟩ := ha'
        obtain ⟨_, q1, _⟩ := addT_spec t T
        obtain ⟨_, _, q2⟩ := addT_spec t T2
        obtain ⟨k1, k2⟩ := leaf_kind o
        exact .cons _ _ _ _ ⟨rfl, rfl, fun h => absurd h k2, fun _ => ⟨_, _, t, rfl, rfl, by rw [List.getElem?_append_left (get_lt q1)]; exact q1, tix_ext q2⟩, fun _ h => absurd k1 h⟩ .nil
      · rw [if_neg hl]
        rw [if_neg hl]
        split
        · exact .cons _ _ _ _ (.plain _ _ (by decide) (by decide)) .nil
        · exact .cons _ _ _ _ (.plain _ _ (by decide) (by decide)) .nil
    · obtain ⟨k1, k2, k3⟩ := insOf_kind (.inl h0)
      have hnl : ¬ isLog o := by rintro (rfl | rfl) <;> cases h0
      simp only [gT, gC] at hq ha' ⊢
      exact (ih a (by simp) ha n p T T2 Tq Ta hq ha').append (.cons _ _ _ _ (.plain _ _ (k3 hnl) k1) .nil)
    · obtain ⟨k1, k2, k3⟩ := insOf_kind (.inr h0)
      simp only [gT, gC] at hq ha' ⊢
      obtain ⟨X, hX⟩ := gT_ext c hc (gT a T)
      obtain ⟨Y, hY⟩ := gT_ext c hc (gT a T2)
      obtain ⟨Xq, hXq⟩ := hq
      obtain ⟨Ya, hYa⟩ := ha'
      have h1 := ih a (by simp) ha n p T T2 Tq Ta ⟨X ++ Xq, by rw [hXq, hX, List.append_assoc]⟩ ⟨Y ++ Ya, by rw [hYa, hY, List.append_assoc]⟩
      by_cases hlog : isLog o
      · have h2 := ih c (by simp) hc n (p + en a + 1) (gT a T) (gT a T2) Tq Ta ⟨Xq, hXq⟩ ⟨Ya, hYa⟩
        rw [if_pos hlog, if_pos hlog]
        have e : p + n + en a + 1 = p + en a + 1 + n := by omega
        rw [e]
        exact h1.append (.cons _ _ _ _ (.to _ _ _ (k2 hlog) k1 (by omega)) h2)
      · have h2 := ih c (by simp) hc n (p + en a) (gT a T) (gT a T2) Tq Ta ⟨Xq, hXq⟩ ⟨Ya, hYa⟩
        rw [if_neg hlog, if_neg hlog]
        have e : p + n + en a = p + en a + n := by omega
        rw [e]
        exact h1.append (h2.append (.cons _ _ _ _ (.plain _ _ (k3 hlog) k1) .nil))

theorem gTc_ext : (∀ c, checkC c = true → ∀ T, ∃ X, gTc c T = T ++ X) ∧ ∀ l, checkL l = true → ∀ T, ∃ X, gTcs l T = T ++ X := by
  have main : ∀ l : List Cl, (∀ c, c ∈ l → checkC c = true → ∀ T, ∃ X, gTc c T = T ++ X) → checkL l = true → ∀ T, ∃ X, gTcs l T = T ++ X := by
    intro l
    induction l with
    | nil => intro _ _ T; exact ⟨[], by simp [gTcs]⟩
    | cons c r ih =>
      intro h hc T
      simp only [checkL, Bool.and_eq_true] at hc
      obtain ⟨X, hX⟩ := h c (by simp) hc.1 T
      obtain ⟨Y, hY⟩ := ih (fun d hd => h d (by simp [hd])) hc.2 (gTc c T)
      exact ⟨X ++ Y, by simp only [gTcs]; rw [hY, hX, List.append_assoc]⟩
  have one : ∀ c, checkC c = true → ∀ T, ∃ X, gTc c T = T ++ X := by
    intro c
    induction c using Cl.ind with
    | h k t v l ih =>
      intro hc T
      obtain ⟨s1, s2, s3⟩ := checkC_parts hc
      obtain ⟨X, hX⟩ := gT_ext t s1 T
      simp only [gTc]
      by_cases k2 : k = 2
      · obtain ⟨Y, hY⟩ := gT_ext v (s2 k2) (gT t T)
        exact ⟨X ++ Y, by rw [if_pos k2, hY, hX, List.append_assoc]⟩
      · by_cases k3 : k = 3
        · obtain ⟨Y, hY⟩ := main l ih s3 (gT t T)
          exact ⟨X ++ Y, by rw [if_neg k2, if_pos k3, hY, hX, List.append_assoc]⟩
        · exact ⟨X, by rw [if_neg k2, if_neg k3, hX]⟩
  exact ⟨one, fun l => main l fun c _ => one c⟩

theorem mv_cl : (∀ c, checkC c = true → ∀ (n p : Nat) (T T2 Tq Ta : List ByteArray), (∃ X, Tq = gTc c T ++ X) → (∃ X, Ta = gTc c T2 ++ X) → Mv n Tq Ta (gCc c p T) (gCc c (p + n) T2)) ∧
    ∀ l, checkL l = true → ∀ (n p : Nat) (T T2 Tq Ta : List ByteArray), (∃ X, Tq = gTcs l T ++ X) → (∃ X, Ta = gTcs l T2 ++ X) → Mv n Tq Ta (gCcs l p T) (gCcs l (p + n) T2) := by
  have main : ∀ l : List Cl, (∀ c, c ∈ l → checkC c = true → ∀ (n p : Nat) (T T2 Tq Ta : List ByteArray), (∃ X, Tq = gTc c T ++ X) → (∃ X, Ta = gTc c T2 ++ X) → Mv n Tq Ta (gCc c p T) (gCc c (p + n) T2)) →
      checkL l = true → ∀ (n p : Nat) (T T2 Tq Ta : List ByteArray), (∃ X, Tq = gTcs l T ++ X) → (∃ X, Ta = gTcs l T2 ++ X) → Mv n Tq Ta (gCcs l p T) (gCcs l (p + n) T2) := by
    intro l
    induction l with
    | nil => intro _ _ n p T T2 Tq Ta _ _; exact .nil
    | cons c r ih =>
      intro h hc n p T T2 Tq Ta hq ha'
      simp only [checkL, Bool.and_eq_true] at hc
      simp only [gTcs] at hq ha'
      obtain ⟨X, hX⟩ := gTc_ext.2 r hc.2 (gTc c T)
      obtain ⟨Y, hY⟩ := gTc_ext.2 r hc.2 (gTc c T2)
      obtain ⟨Xq, hXq⟩ := hq
      obtain ⟨Ya, hYa⟩ := ha'
      have h1 := h c (by simp) hc.1 n p T T2 Tq Ta ⟨X ++ Xq, by rw [hXq, hX, List.append_assoc]⟩ ⟨Y ++ Ya, by rw [hYa, hY, List.append_assoc]⟩
      have h2 := ih (fun d hd => h d (by simp [hd])) hc.2 n (p + cn c) (gTc c T) (gTc c T2) Tq Ta ⟨Xq, hXq⟩ ⟨Ya, hYa⟩
      simp only [gCcs]
      have e : p + n + cn c = p + cn c + n := by omega
      rw [e]
      exact h1.append h2
  have one : ∀ c, checkC c = true → ∀ (n p : Nat) (T T2 Tq Ta : List ByteArray), (∃ X, Tq = gTc c T ++ X) → (∃ X, Ta = gTc c T2 ++ X) → Mv n Tq Ta (gCc c p T) (gCc c (p + n) T2) := by
    intro c
    induction c using Cl.ind with
    | h k t v l ih =>
      intro hc n p T T2 Tq Ta hq ha'
      obtain ⟨s1, s2, s3⟩ := checkC_parts hc
      simp only [gCc]
      have e1 : p + n + 1 = p + 1 + n := by omega
      have e2 : p + n + 2 + en t = p + 2 + en t + n := by omega
      rw [e1, e2]
      have pq : ∃ X, Tq = gT t T ++ X := by
        obtain ⟨X, hX⟩ := hq
        simp only [gTc] at hX
        by_cases k2 : k = 2
        · obtain ⟨Y, hY⟩ := gT_ext v (s2 k2) (gT t T)
          exact ⟨Y ++ X, by rw [hX, if_pos k2, hY, List.append_assoc]⟩
        · by_cases k3 : k = 3
          · obtain ⟨Y, hY⟩ := gTc_ext.2 l s3 (gT t T)
            exact ⟨Y ++ X, by rw [hX, if_neg k2, if_pos k3, hY, List.append_assoc]⟩
          · exact ⟨X, by rw [hX, if_neg k2, if_neg k3]⟩
      have pa : ∃ X, Ta = gT t T2 ++ X := by
        obtain ⟨X, hX⟩ := ha'
        simp only [gTc] at hX
        by_cases k2 : k = 2
        · obtain ⟨Y, hY⟩ := gT_ext v (s2 k2) (gT t T2)
          exact ⟨Y ++ X, by rw [hX, if_pos k2, hY, List.append_assoc]⟩
        · by_cases k3 : k = 3
          · obtain ⟨Y, hY⟩ := gTc_ext.2 l s3 (gT t T2)
            exact ⟨Y ++ X, by rw [hX, if_neg k2, if_pos k3, hY, List.append_assoc]⟩
          · exact ⟨X, by rw [hX, if_neg k2, if_neg k3]⟩
      have h1 := mv_ex t s1 n (p + 1) T T2 Tq Ta pq pa
      refine .cons _ _ _ _ (.to _ _ _ (by decide) (by decide) (by omega)) (h1.append (.cons _ _ _ _ (.to _ _ _ (by decide) (by decide) (by omega)) (Mv.append ?_ (.cons _ _ _ _ (.plain _ _ (by decide) (by decide)) .nil))))
      by_cases k1 : k = 1
      · rw [if_pos k1, if_pos k1]; exact .cons _ _ _ _ (.plain _ _ (by decide) (by decide)) .nil
      · rw [if_neg k1, if_neg k1]
        simp only [gTc] at hq ha'
        by_cases k2 : k = 2
        · rw [if_pos k2] at hq ha' ⊢
          rw [if_pos k2]
          exact (mv_ex v (s2 k2) n (p + 2 + en t) _ _ Tq Ta hq ha').append (.cons _ _ _ _ (.plain _ _ (by decide) (by decide)) .nil)
        · rw [if_neg k2] at hq ha' ⊢
          rw [if_neg k2]
          by_cases k3 : k = 3
          · rw [if_pos k3] at hq ha' ⊢
            rw [if_pos k3]
            exact main l ih s3 n (p + 2 + en t) _ _ Tq Ta hq ha'
          · rw [if_neg k3, if_neg k3]; exact .nil
  exact ⟨one, fun l => main l fun c _ => one c⟩

/-! ### how many bytes -/
def bm : List ByteArray → Nat
  | [] => 0
  | t :: r => 1 + t.size + bm r
theorem bm_append (Y : List ByteArray) : ∀ X, bm (X ++ Y) = bm X + bm Y
  | [] => by simp [bm]
  | t :: r => by simp only [List.cons_append, bm, bm_append Y r]; omega
theorem bm_len : ∀ T, T.length ≤ bm T
  | [] => by simp [bm]
  | t :: r => by have := bm_len r; simp only [bm, List.length_cons]; omega
theorem txtSz_bm : ∀ T, txtSz T ≤ 6 * bm T
  | [] => by simp [txtSz, bm]
  | t :: r => by have := txtSz_bm r; have := szN_range 5 t.size; simp only [txtSz, bm]; push_cast; omega
mutual
def esz : Ex → Nat
  | .mk _ t xs => 1 + t.size + eszs xs
def eszs : List Ex → Nat
  | [] => 0
  | a :: r => esz a + eszs r
end
mutual
def csz : Cl → Nat
  | .mk _ t v l => 1 + esz t + esz v + cszs l
def cszs : List Cl → Nat
  | [] => 0
  | c :: r => csz c + cszs r
end
theorem esz_pos (e : Ex) : 1 ≤ esz e := by obtain ⟨o, t, xs⟩ := e; simp only [esz]; omega
theorem bm_addT (t : ByteArray) (T : List ByteArray) : bm (addT t T) ≤ bm T + 1 + t.size := by
  rw [addT]
  split
  · omega
  · rw [bm_append]; simp only [bm]; omega
theorem bm_gT (e : Ex) : Shaped e → ∀ T, bm (gT e T) ≤ bm T + esz e := by
  induction e using Ex.ind with
  | h o t xs ih =>
    intro hs T
    rcases hs.args with ⟨h0, rfl⟩ | ⟨h0, a, rfl, ha⟩ | ⟨h0, a, c, rfl, ha, hc⟩
    · have := bm_addT t T
      simp only [gT, esz, eszs]
      split <;> omega
    · have := ih a (by simp) ha T
      simp only [gT, esz, eszs]; omega
    · have := ih a (by simp) ha T
      have := ih c (by simp) hc (gT a T)
      simp only [gT, esz, eszs]; omega
theorem bm_gTc : (∀ c, checkC c = true → ∀ T, bm (gTc c T) ≤ bm T + csz c) ∧ ∀ l, checkL l = true → ∀ T, bm (gTcs l T) ≤ bm T + cszs l := by
  have main : ∀ l : List Cl, (∀ c, c ∈ l → checkC c = true → ∀ T, bm (gTc c T) ≤ bm T + csz c) → checkL l = true → ∀ T, bm (gTcs l T) ≤ bm T + cszs l := by
    intro l
    induction l with
    | nil => intro _ _ T; simp [gTcs, cszs]
    | cons c r ih =>
      intro h hc T
      simp only [checkL, Bool.and_eq_true] at hc
      have := h c (by simp) hc.1 T
      have := ih (fun d hd => h d (by simp [hd])) hc.2 (gTc c T)
      simp only [gTcs, cszs]; omega
  have one : ∀ c, checkC c = true → ∀ T, bm (gTc c T) ≤ bm T + csz c := by
    intro c
    induction c using Cl.ind with
    | h k t v l ih =>
      intro hc T
      obtain ⟨s1, s2, s3⟩ := checkC_parts hc
      have h1 := bm_gT t s1 T
      simp only [gTc, csz]
      by_cases k2 : k = 2
      · have := bm_gT v (s2 k2) (gT t T)
        rw [if_pos k2]; omega
      · by_cases k3 : k = 3
        · have := main l ih s3 (gT t T)
          rw [if_neg k2, if_pos k3]; omega
        · rw [if_neg k2, if_neg k3]; omega
  exact ⟨one, fun l => main l fun c _ => one c⟩

/-- How many instructions. -/
theorem en_esz (e : Ex) : Shaped e → en e ≤ esz e := by
  induction e using Ex.ind with
  | h o t xs ih =>
    intro hs
    rcases hs.args with ⟨h0, rfl⟩ | ⟨h0, a, rfl, ha⟩ | ⟨h0, a, c, rfl, ha, hc⟩
    · simp only [en, esz, eszs]; omega
    · have := ih a (by simp) ha
      simp only [en, esz, eszs]; omega
    · have := ih a (by simp) ha
      have := ih c (by simp) hc
      simp only [en, esz, eszs]; omega
theorem cn_csz : (∀ c, checkC c = true → cn c ≤ 2 * csz c) ∧ ∀ l, checkL l = true → cns l ≤ 2 * cszs l := by
  have main : ∀ l : List Cl, (∀ c, c ∈ l → checkC c = true → cn c ≤ 2 * csz c) → checkL l = true → cns l ≤ 2 * cszs l := by
    intro l
    induction l with
    | nil => intro _ _; simp [cns, cszs]
    | cons c r ih =>
      intro h hc
      simp only [checkL, Bool.and_eq_true] at hc
      have := h c (by simp) hc.1
      have := ih (fun d hd => h d (by simp [hd])) hc.2
      simp only [cns, cszs]; omega
  have one : ∀ c, checkC c = true → cn c ≤ 2 * csz c := by
    intro c
    induction c using Cl.ind with
    | h k t v l ih =>
      intro hc
      obtain ⟨s1, s2, s3⟩ := checkC_parts hc
      have h1 := en_esz t s1
      have h2 := esz_pos v
      have h3 := esz_pos t
      simp only [cn, csz]
      by_cases k1 : k = 1
      · rw [if_pos k1]; omega
      · rw [if_neg k1]
        by_cases k2 : k = 2
        · have := en_esz v (s2 k2)
          rw [if_pos k2]; omega
        · rw [if_neg k2]
          by_cases k3 : k = 3
          · have := main l ih s3
            rw [if_pos k3]; omega
          · rw [if_neg k3]; omega
  exact ⟨one, fun l => main l fun c _ => one c⟩

theorem ew_esz (e : Ex) : ∀ most : Int, 0 ≤ most → ew e most ≤ most → (esz e : Int) ≤ ew e most := by
  induction e using Ex.ind with
  | h o t xs ih =>
    intro most h0 h
    have main : ∀ (l : List Ex) (n : Int), (∀ a, a ∈ l → a ∈ xs) → 1 ≤ n → n ≤ most + 1 → ews l most n ≤ most → n + eszs l ≤ ews l most n := by
      intro l
      induction l with
      | nil => intro n _ _ _ h; simp [eszs, ews]
      | cons a r ihr =>
        intro n hl h1 h2 h
        simp only [ews] at h ⊢
        split at h
        · rename_i h3
          have h4 := ews_le.1 a (most - n) (by omega)
          have h5 := ews_le.2 r most (n + ew a (most - n)) h0 (by omega) (by omega)
          have g1 := ih a (hl a (by simp)) (most - n) (by omega) (by omega)
          have g2 := ihr _ (fun b hb => hl b (by simp [hb])) (by omega) (by omega) h
          rw [if_pos h3]
          simp only [eszs]; push_cast; omega
        · omega
    simp only [ew] at h ⊢
    have hc : 1 ≤ lcap t most ∧ lcap t most ≤ most + 1 := by simp only [lcap]; split <;> omega
    have g := main xs (lcap t most) (fun _ h => h) hc.1 hc.2 h
    have ht : lcap t most = 1 + t.size := by
      have h9 : lcap t most ≤ most := by omega
      simp only [lcap] at h9 ⊢
      split at h9
      · omega
      · rename_i h8; rw [if_neg h8]
    simp only [esz]; push_cast; omega
theorem wC_csz : ∀ c : Cl, ∀ most n : Int, 0 ≤ n → n ≤ most → wC c most n ≤ most → n + csz c ≤ wC c most n := by
  intro c
  induction c using Cl.ind with
  | h k t v b ih =>
    intro most n h0 hn h
    have main : ∀ (l : List Cl) (m n : Int), (∀ c, c ∈ l → c ∈ b) → 0 ≤ n → wCs l m n ≤ m → n + cszs l ≤ wCs l m n := by
      intro l
      induction l with
      | nil => intro m n _ _ h; simp [cszs, wCs]
      | cons c r ihr =>
        intro m n hl h0 h
        simp only [wCs] at h ⊢
        split at h
        · rename_i h2
          have h3 := wCs_ge.1 c m n h2
          have h4 := wCs_ge.2 r m (wC c m n)
          have h8 := ihr m _ (fun d hd => hl d (by simp [hd])) (by omega) h
          have k1 := ih c (hl c (by simp)) m n h0 h2 (by omega)
          rw [if_pos h2]
          simp only [cszs]; push_cast; omega
        · omega
    have h1 := wTV_le t v most n hn
    simp only [wC] at h ⊢
    split at h
    · rename_i h2
      have h8 := main b (most - wTV t v most n) 0 (fun c hc => hc) (by omega) (by omega)
      have g1 := ews_le.1 t (most - n) (by omega)
      by_cases h5 : n + 1 + ew t (most - n) ≤ most
      · have e1 : wTV t v most n = n + 1 + ew t (most - n) + ew v (most - (n + 1 + ew t (most - n))) := by rw [wTV, if_pos h5]
        have g2 := ews_le.1 v (most - (n + 1 + ew t (most - n))) (by omega)
        have p1 := ew_esz t (most - n) (by omega) (by omega)
        have q1 := ew_esz v (most - (n + 1 + ew t (most - n))) (by omega) (by omega)
        rw [if_pos h2]
        simp only [csz]; push_cast; omega
      · have e1 : wTV t v most n = n + 1 + ew t (most - n) := by rw [wTV, if_neg h5]
        omega
    · omega
theorem wCs_csz (l : List Cl) (m : Int) (h : wCs l m 0 ≤ m) : (cszs l : Int) ≤ m := by
  have main : ∀ (l : List Cl) (n : Int), 0 ≤ n → wCs l m n ≤ m → n + cszs l ≤ wCs l m n := by
    intro l
    induction l with
    | nil => intro n _ h; simp [cszs, wCs]
    | cons c r ihr =>
      intro n h0 h
      simp only [wCs] at h ⊢
      split at h
      · rename_i h2
        have h3 := wCs_ge.1 c m n h2
        have h4 := wCs_ge.2 r m (wC c m n)
        have h8 := ihr _ (by omega) h
        have k1 := wC_csz c m n h0 h2 (by omega)
        rw [if_pos h2]
        simp only [cszs]; push_cast; omega
      · omega
  have := main l 0 (by omega) h
  omega

end Go.Proofs.Ythmlninecfjjgaa.AD

namespace Go.Proofs.Ythmlninecfjjgaa.AD
open Go.Proofs
set_option linter.unusedVariables false
set_option linter.unusedSimpArgs false
set_option maxRecDepth 100000

/-- A call that makes a plain value new, handed own objects that it only reads. -/
theorem CallVC.lendN {P : Program} {f : Nat} {args : List AV} {ps : List PV} {ba lo : List Ob} {K : AV → List Ob → List Ob → Prop} {R : PV} (h : CallVC P f (ps.map .p) [] [] fun r b l => LendF l r R) (hl : Lends ba lo args ps) (k : K (.p R) ba lo) : CallVC P f args ba lo K := by
  refine .pure (e := R) ?_ k
  obtain ⟨h1, h2⟩ := hl.out
  intro μ w xs hi hx
  refine Calls.mono' (h.out [] w xs (inv_nil w) ⟨by rw [hx.1, closes_length, h1, List.length_map], fun j x a hj ha => ?_⟩) fun e w' hw => ?_
  · rw [List.getElem?_map] at ha
    obtain ⟨p, hp, rfl⟩ := Option.map_eq_some_iff.1 ha
    obtain ⟨a, ha, hla⟩ := h2 j p hp
    exact .p _ _ ((hla.close μ w hi x (hx.2 j x _ hj (by rw [closes_get, ha]; rfl))).mono ⟨Nat.le_refl _, fun b _ _ => ⟨fun ⟨i, m, h, _⟩ => by simp at h, rfl⟩⟩)
  · obtain ⟨v, r, μ', ba', lo', rfl, g2, g3, g4, g5, g6⟩ := hw
    have hba : ba' = [] := List.length_eq_zero_iff.1 (by simpa using g5)
    subst hba
    have hnew : ∀ b, b < w.heap.size → ¬ blocks μ' b ∧ w'.heap[b]? = w.heap[b]? := fun b hb => g4.stays.2 b hb fun ⟨i, m, h, _⟩ => by simp at h
    have hv : VP (blocks μ) w' v R := g6.close μ' w' (blocks μ) g3 (fun b hb hc => (hnew b (hi.lt hc)).1 hb) v g2
    exact ⟨v, _, _, μ, rfl, ⟨rfl, rfl⟩, hi.kept g4.stays.1 fun b hb => (hnew b hb).2, .p _ _ hv, g4.os, g4.tape, g4.output, .refl μ, g4.stays.1, fun b hb hm => ⟨hm, (hnew b hb).2⟩⟩

theorem Conds_VC (l : List Cl) (hl : (l.length : Int) ≤ 9223372036854775807) (hf : ∀ c, c ∈ l → FitsC c) (hcnt : ccnts l ≤ 20000) : CallVC Try.prog 19 ([.list 8 (encCs l)].map .p) [] [] fun r b os => LendF os r (condsR l) := by
  refine Conds_K l hl hf hcnt _ (fun h os => ?_) (fun h0 h os => ?_) fun h0 h => ?_
  · rw [condsR, if_neg h]; exact .p _ (nil_tup _)
  · rw [condsR, if_pos h0, if_pos h]; exact .p _ (nil_tup _)
  · rw [condsR, if_pos h0, if_neg h]
    exact prog_lend 1 _ 3 4 _ _ _ rfl rfl

theorem finC_gen (l : List Cl) (hck : checkL l = true) (h : cns l ≤ 32767) : finC l = ⟨gTcs l [], gCcs l 0 [] ++ [⟨33, 0, 0⟩], gMcs l, 0⟩ := by
  have hm := gMc_range.2 l hck
  have hl := gCc_len.2 l hck 0 []
  have h1 : clsB l b0 = ⟨gTcs l [], [] ++ gCcs l 0 [], max 0 (0 + gMcs l), 0⟩ := clB_gen.2 l hck b0 (by simp [b0]; omega) (by simp [b0]) (by simp [b0]) (by simp [b0]; omega)
  rw [finC, h1, putB_eq _ _ (by simp only [List.nil_append, hl]; omega) (by show _ ≤ (0 : Int) + 0; omega) (by show (0 : Int) + 0 ≤ _; omega)]
  have e4 : effI ⟨33, 0, 0⟩ = 0 := rfl
  refine bs_ext rfl (by simp) ?_ ?_
  · simp only [e4]; omega
  · simp only [e4]; omega
theorem errP3 {κ : Int} {T : List ByteArray} {C : List Ins} {S : Int} (h : errP κ T C S = 3) : 32768 < C.length ∨ 8192 < T.length ∨ 1048576 < hdSz T C S + codeSz C + txtSz T := by
  unfold errP at h
  split at h
  · omega
  · split at h
    · cases h
    · split at h
      · exact .inr (.inr (by assumption))
      · cases h
theorem lim_small (l : List Cl) (hck : checkL l = true) (hz : cszs l ≤ 8000) : limB 1 (finC l) ↔ 1024 < gMcs l := by
  have hc := cn_csz.2 l hck
  have hT := bm_gTc.2 l hck []
  have hlen := bm_len (gTcs l [])
  have htx := txtSz_bm (gTcs l [])
  have hl := gCc_len.2 l hck 0 []
  have hcs := codeSz_range (gCcs l 0 [] ++ [⟨33, 0, 0⟩])
  have s1 := szN_range 5 (gMcs l)
  have s2 := szN_range 5 ((gTcs l []).length : Int)
  have s3 := szN_range 5 ((gCcs l 0 [] ++ [(⟨33, 0, 0⟩ : Ins)]).length : Int)
  have e0 : bm [] = 0 := rfl
  simp only [List.length_append, List.length_singleton, hl] at hcs
  rw [finC_gen l hck (by omega)]
  refine ⟨fun h => ?_, fun h => .inr ⟨rfl, h⟩⟩
  rcases h with h | ⟨_, h⟩
  · exfalso
    have h9 := errP3 h
    simp only [hdSz, List.length_append, List.length_singleton, hl] at h9
    simp only [List.length_append, List.length_singleton, hl] at s3
    push_cast at hcs h9 s3
    omega
  · exact h

theorem app_cls (b : List Cl) : ∀ a : List Cl, checkL (a ++ b) = (checkL a && checkL b) ∧ rightL (a ++ b) = (rightL a && rightL b) ∧ cns (a ++ b) = cns a + cns b ∧ cszs (a ++ b) = cszs a + cszs b ∧ ccnts (a ++ b) = ccnts a + ccnts b ∧ encCs (a ++ b) = encCs a ++ encCs b ∧
    (∀ T, gTcs (a ++ b) T = gTcs b (gTcs a T)) ∧ (∀ p T, gCcs (a ++ b) p T = gCcs a p T ++ gCcs b (p + cns a) (gTcs a T)) ∧ gMcs (a ++ b) = max (gMcs a) (gMcs b) ∨ checkL b = false
  | [] => by
    cases hb : checkL b with
    | false => exact .inr rfl
    | true =>
      have := gMc_range.2 b hb
      refine .inl ⟨by simp [checkL, hb], by simp [rightL], by simp [cns], by simp [cszs], by simp [ccnts], by simp [encCs], fun T => rfl, fun p T => by simp [gCcs, cns, gTcs], ?_⟩
      simp only [List.nil_append, gMcs]; omega
  | c :: r => by
    rcases app_cls b r with ⟨h1, h2, h3, h4, h5, h6, h7, h8, h9⟩ | h
    · refine .inl ⟨?_, ?_, ?_, ?_, ?_, ?_, fun T => ?_, fun p T => ?_, ?_⟩
      · simp only [List.cons_append, checkL, h1, Bool.and_assoc]
      · simp only [List.cons_append, rightL, h2, Bool.and_assoc]
      · simp only [List.cons_append, cns, h3]; omega
      · simp only [List.cons_append, cszs, h4]; omega
      · simp only [List.cons_append, ccnts, h5]; omega
      · simp only [List.cons_append, encCs, h6]
      · simp only [List.cons_append, gTcs, h7]
      · simp only [List.cons_append, gCcs, gTcs, cns, h8, List.append_assoc]
        rw [Nat.add_assoc]
      · simp only [List.cons_append, gMcs, h9]; omega
    · exact .inr h
theorem app_enc (b : List Cl) : ∀ a : List Cl, encCs (a ++ b) = encCs a ++ encCs b ∧ checkL (a ++ b) = (checkL a && checkL b) ∧ rightL (a ++ b) = (rightL a && rightL b) ∧ ccnts (a ++ b) = ccnts a + ccnts b ∧ cszs (a ++ b) = cszs a + cszs b
  | [] => by simp [encCs, checkL, rightL, ccnts, cszs]
  | c :: r => by
    obtain ⟨h1, h2, h3, h4, h5⟩ := app_enc b r
    refine ⟨by simp only [List.cons_append, encCs, h1], by simp only [List.cons_append, checkL, h2, Bool.and_assoc], by simp only [List.cons_append, rightL, h3, Bool.and_assoc], by simp only [List.cons_append, ccnts, h4]; omega, by simp only [List.cons_append, cszs, h5]; omega⟩

theorem moved_spec (n : Nat) (Tq Ta : List ByteArray) (Cq Ca : List Ins) (Sq Sa : Int) (x y : Ins) (h : MvI n Tq Ta x y) (hT : Ta.length ≤ 1000000) (hb : 0 ≤ x.a ∧ x.a + n ≤ 4611686018427387904) :
    pureF Try.prog 22 [.p (insP x), .p (encPg 1 Tq Cq Sq), .p (encPg 1 Ta Ca Sa), .p (.int .i64 n)] (.p (insP y)) := by
  refine pureF_of f22_ok fun H => ?_
  have hTa := tP_len Ta
  obtain ⟨o, a, b⟩ := x
  obtain ⟨o', a', b'⟩ := y
  obtain ⟨h1, h2, h3, h4, h5⟩ := h
  simp only at h1 h2 h3 h4 h5 hb
  subst h1; subst h2
  by_cases hl : isLeap o'
  · have e := h3 hl
    subst e
    rcases hl with rfl | rfl | rfl | rfl
    all_goals
      repeat' ((conv => whnf); first | refine splitB_t rfl ?_ | refine splitB_f rfl ?_)
      refine ⟨?_, rfl⟩
      show AV.p (.agg [.int .u8 _, .int .i64 (IntKind.i64.wrap (a + n)), .int .i64 b']) = _
      rw [IntWalk.i64_in (a + n) (by omega)]
      rfl
  · by_cases ht : tx o'
    · obtain ⟨i, j, s, rfl, rfl, hs, hj⟩ := h4 ht
      have m6 : o' ≠ 26 := fun e => hl (.inl e)
      have m7 : o' ≠ 27 := fun e => hl (.inr (.inl e))
      have m8 : o' ≠ 28 := fun e => hl (.inr (.inr (.inl e)))
      have m9 : o' ≠ 29 := fun e => hl (.inr (.inr (.inr e)))
      rcases ht with e | e | e | e
      all_goals
        repeat' ((conv => whnf); first | refine splitB_t rfl ?_ | refine splitB_f rfl ?_ | refine splitB_t (beq_iff_eq.2 e) ?_ | refine splitB_f (beq_eq_false_iff_ne.2 m6) ?_ | refine splitB_f (beq_eq_false_iff_ne.2 m7) ?_ | refine splitB_f (beq_eq_false_iff_ne.2 m8) ?_ | refine splitB_f (beq_eq_false_iff_ne.2 m9) ?_ | refine splitB_f (beq_eq_false_iff_ne.2 (fun h => absurd (e.symm.trans h) (by decide))) ?_ | done)
        intro R hR
        have key : ∀ (rest : List ByteArray) (k : Nat), Ta.drop k = rest → (tix s rest).map (· + k) = some j → R [(4, .ref (.l 0) 0), (5, .ref (.l 1) 0), (6, .ref (.l 2) 0), (8, .ref (.l 3) 0), (9, .p (.int .i64 k))] H
            [.cells [.p (.int .u8 o'), .p (.int .i64 i), .p (.int .i64 b')], .cells [.p (.int .u8 1), .p (.list 1 (tP Tq)), .p (.list 3 (cP Cq)), .p (.int .i64 Sq)], .cells [.p (.int .u8 1), .p (.list 1 (tP Ta)), .p (.list 3 (cP Ca)), .p (.int .i64 Sa)], .cells [.p (.int .u8 0), .p (.int .i64 0), .p (.int .i64 0)]] := by
          intro rest
          induction rest with
          | nil => intro k hd hq; simp [tix] at hq
          | cons t r ih =>
            intro k hd hq
            obtain ⟨hg, hd', hi⟩ := drop_cons hd
            refine hR _ _ _ ?_
            (conv => whnf)
            refine splitB_t (decide_eq_true (by omega)) ?_
            (conv => whnf)
            refine ⟨rfl, _, ⟨by omega, tP_get hg⟩, ?_⟩
            (conv => whnf)
            refine ⟨rfl, _, ⟨by omega, tP_get hs⟩, ?_⟩
            (conv => whnf)
            simp only [tix] at hq
            refine splitB_eq (fun e => ?_) (fun e => ?_)
            · have e := ba_inj e
              rw [if_pos e.symm] at hq
              have hjk : k = j := by simpa using hq
              subst hjk
              exact ⟨rfl, rfl⟩
            · rw [if_neg (fun e' => e (by rw [e']))] at hq
              (conv => whnf)
              rw [IntWalk.i64_in _ (by omega)]
              refine ih (k + 1) hd' ?_
              cases hr : tix s r with
              | none => rw [hr] at hq; cases hq
              | some q => rw [hr] at hq; simp at hq ⊢; omega
        exact key Ta 0 rfl (by rw [hj]; rfl)
    · have e := h5 hl ht
      subst e
      have n1 : o' ≠ 1 := fun e => ht (.inl e)
      have n2 : o' ≠ 2 := fun e => ht (.inr (.inl e))
      have n3 : o' ≠ 3 := fun e => ht (.inr (.inr (.inl e)))
      have n4 : o' ≠ 4 := fun e => ht (.inr (.inr (.inr e)))
      have n5 : o' ≠ 26 := fun e => hl (.inl e)
      have n6 : o' ≠ 27 := fun e => hl (.inr (.inl e))
      have n7 : o' ≠ 28 := fun e => hl (.inr (.inr (.inl e)))
      have n8 : o' ≠ 29 := fun e => hl (.inr (.inr (.inr e)))
      (conv => whnf)
      refine splitB_f (beq_eq_false_iff_ne.2 n5) ?_
      (conv => whnf)
      refine splitB_f (beq_eq_false_iff_ne.2 n6) ?_
      (conv => whnf)
      refine splitB_f (beq_eq_false_iff_ne.2 n7) ?_
      (conv => whnf)
      refine splitB_f (beq_eq_false_iff_ne.2 n8) ?_
      (conv => whnf)
      refine splitB_f (beq_eq_false_iff_ne.2 n1) ?_
      (conv => whnf)
      refine splitB_f (beq_eq_false_iff_ne.2 n2) ?_
      (conv => whnf)
      refine splitB_f (beq_eq_false_iff_ne.2 n3) ?_
      (conv => whnf)
      refine splitB_f (beq_eq_false_iff_ne.2 n4) ?_
      exact ⟨rfl, rfl⟩

end Go.Proofs.Ythmlninecfjjgaa.AD
